/- Texts for LWitnessForged, part 6. -/
import Derived.OrdersIn
import Derived.Scope
import Derived.Recover
import Derived.ControlIn
import Derived.Test.YtefdekemmnnclaaGreatQf5
namespace Go.V
section sound
variable {P:Program} {n:Nat} {D:List Deferred} {pk:Nat} {X:PX}
def ye(M:Nat->Bool)(ρ ρ':Env):Prop:=∀mask,M mask=true->∀t,Nat.testBit mask t=false->ρ' t=ρ t
theorem ye.refl(M:Nat->Bool)(ρ:Env):ye M ρ ρ:=fun _ _ _ _=>rfl
theorem ye.trans{M:Nat->Bool}{a b c:Env}(h:ye M a b)(k:ye M b c):ye M a c:=fun m hm t ht=>(k m hm t ht).trans (h m hm t ht)
theorem ye.mono{M M':Nat->Bool}{a b:Env}(h:ye M a b)(hm:∀m,M' m=true->M m=true):ye M' a b:=fun m hm' t ht=>h m (hm m hm') t ht
theorem ye.di{M:Nat->Bool}{ρ:Env}{d:Option Nat}(h:∀m,M m=true->qm m d=true)(v:Value):ye M ρ (di ρ d v):=by
 intro m hm t ht
 cases d with
 | none=>rfl
 | some d=>
  have:=h m hm;simp only[qm]at this;refine K6 _ _ fun e=>?_
  subst e;rw[ht]at this;cases this
def yl(ops:Array Oper)(o:Oper)(ρ:Env):Bool:=
 Region.wanted o (fun j=>match(ops[j]?).bind (·.dst) with
  | some d=>match ρ d with
   | .bool b=>some b
   | _=>none
  | none=>none)
theorem iM.wanted{a:Act}{ρ:Env}(h:iM D n a ρ)(ops:Array Oper)(o:Oper):Region.wanted o (yielded ops a.tmps)=yl ops o ρ:=by
 unfold yl;congr 1;funext j;unfold yielded
 cases hd:(ops[j]?).bind (·.dst) with
 | none=>rfl
 | some d=>
  simp only[Option.bind_some];have hg:=h.get d;rcases Nat.lt_or_ge d a.tmps.size with aV | ym
  .have:a.tmps[d]? = some (ρ d):=by
    rw[<- hg];simp[aV]
   rw[this]
   cases ρ d <;> rfl
  .have e1:a.tmps[d]? = none:=by simp[ym]
   have e2:ρ d=undef:=by rw[<- hg];simp[e1]
   rw[e1,e2];rfl
theorem nJ{ops:Array Oper}{o:Oper}{ρ:Env}{A B:Prop}(h:gW ops o ρ A B):(yl ops o ρ=true/\A)∨(yl ops o ρ=false/\B):=by
 unfold gW at h;unfold yl Region.wanted
 cases hg:o.guard with
 | none=>rw[hg]at h;exact .inl ⟨rfl,h⟩
 | some gw=>
  obtain⟨j,want⟩:=gw;simp only[hg]at h ⊢
  cases hd:(ops[j]?).bind (·.dst) with
  | none=>rw[hd]at h;exact .inr ⟨rfl,h⟩
  | some d=>
   simp only[hd]at h ⊢;split at h
   .rename_i b hb;simp only[hb]
    cases want <;> cases b <;> simp only[cond_true,cond_false]at h
    .exact .inl ⟨rfl,h⟩
    .exact .inr ⟨rfl,h⟩
    .exact .inr ⟨rfl,h⟩
    .exact .inl ⟨rfl,h⟩
   .rename_i dz;refine .inr ⟨?_,h⟩
    cases hv:ρ d <;> first | rfl | exact absurd hv (dz _)
theorem gY{g:Bool}{v:Value}{K:Value->Prop}(h:mF g v K):K v:=by
 unfold mF at h
 cases g with
 | false=>exact h
 | true=>
  simp only[cond_true]at h;split at h
  .rename_i b
   cases b
   .exact h.out.2 rfl
   .exact h.out.1 rfl
  .exact h
def jm(D:List Deferred)(n:Nat)(Q:Exit->Env->Pw)(X:PX)(M:Nat->Bool)(ρ0:Env):Exit->Act->Pw
 | .panic c,a,w=>X c w/\∃ρ',iM D n a ρ'/\ye M ρ0 ρ'
 | .normal,a,w=>∃ρ',iM D n a ρ'/\Q .normal ρ' w/\ye M ρ0 ρ'
 | .exit i,a,w=>∃ρ',iM D n a ρ'/\Q (.exit i) ρ' w/\ye M ρ0 ρ'
 | .goto i,a,w=>∃ρ',iM D n a ρ'/\Q (.goto i) ρ' w/\ye M ρ0 ρ'
 | .ret,a,w=>∃ρ',iM D n a ρ'/\Q .ret ρ' w/\ye M ρ0 ρ'
 | .outgrown,_,_=>False
theorem jm.mono{Q:Exit->Env->Pw}{M M':Nat->Bool}{ρ0:Env}{e:Exit}{a:Act}{w:Wd}(h:jm D n Q X M ρ0 e a w)(hm:∀m,M' m=true->M m=true):jm D n Q X M' ρ0 e a w:=by
 cases e with
 | panic c=>obtain⟨h1,ρ',h2,h3⟩:=h;exact⟨h1,ρ',h2,h3.mono hm⟩
 | outgrown=>exact h
 | _=>obtain⟨ρ',h1,h2,h3⟩:=h;exact⟨ρ',h1,h2,h3.mono hm⟩
theorem jm.from{Q:Exit->Env->Pw}{M:Nat->Bool}{ρ0 ρ1:Env}{e:Exit}{a:Act}{w:Wd}(h:jm D n Q X M ρ1 e a w)(hf:ye M ρ0 ρ1):jm D n Q X M ρ0 e a w:=by
 cases e with
 | panic c=>obtain⟨h1,ρ',h2,h3⟩:=h;exact⟨h1,ρ',h2,hf.trans h3⟩
 | outgrown=>exact h
 | _=>obtain⟨ρ',h1,h2,h3⟩:=h;exact⟨ρ',h1,h2,hf.trans h3⟩
theorem iM.aaq{M:Nat->Bool}{ρ0 ρ':Env}{a:Act}{d:Option Nat}{v:Value}(h:iM D n (a.put d v) ρ')(f:ye M ρ0 ρ')(hm:∀m,M m=true->qm m d=true):∃ρ',iM D n a ρ'/\ye M ρ0 ρ':=by
 cases d with
 | none=>exact⟨ρ',h,f⟩
 | some d=>
  refine⟨fun t=>a.tmps.getD t undef,⟨h.defers,by have:=h.size;simpa[Act.put] using this,fun _=>rfl⟩,fun m hM t ht=>?_⟩;have hd:=hm m hM;have dz:t≠d:=by rintro rfl;simp only[qm]at hd;rw[hd]at ht;cases ht
  have h1:=h.get t;rw[<- f m hM t ht,<- h1];simp[Act.put,Array.getElem?_setIfInBounds_ne (Ne.symm dz)]
theorem CB{o:Oper}{a:Act}{w:Wd}{K:Value->Pw}{next:Act->Pw}{Q:Exit->Act->Pw}(h:kV P X false o a.eval K w)
  (hk:∀v w',K v w'->next (a.put o.dst v) w') (hx:∀c w',X c w'->Q (.panic c) a w'):o.wp P a w next Q:=by
 unfold kV at h;unfold Oper.wp;generalize(execOp a.eval o).run P w=r at h;split at h
 .exact hk _ _ h
 .exact hk _ _ h
 .refine Calls.mono h fun e EN he=>?_
  rcases he with⟨v,rfl,hv⟩ | ⟨c,rfl,hc⟩
  .exact hk _ _ hv
  .exact hx _ _ hc
 .cases h.1
 .exact hx _ _ h
 .exact h.elim
def qo(ro:Option Nat):Fence:={ Fence.wide with round:=ro }
theorem FG{ro:Option Nat}{o:Oper}{a:Act}{w:Wd}{K:Value->Pw}{next:Act->Pw}{Q:Exit->Act->Pw}(hnd:∀c,o.op ≠ .defer c)(h:kV P X true o a.eval K w)
  (hk:∀v w',K v w'->next (a.put o.dst v) w') (hx:∀c w',X c w'->Q (.panic c) a w'):o.wpIn (qo ro) 0 P a w next Q:=by
 unfold kV at h;refine⟨fun f _=>trivial,?_⟩;rw[Oper.semAt_eq _ _ _ hnd];generalize(execOp a.eval o).run P w=r at h;have dp:(qo ro).depth.isSome=true->1<=0:=fun h=>by cases h
 split at h
 .exact hk _ _ h
 .exact hk _ _ h
 .refine⟨dp,?_⟩;have h':=(callsIn_wide (n:=0)).2 h;refine CallsIn.mono (F:=qo ro) h' fun e EN he=>?_
  rcases he with⟨v,rfl,hv⟩ | ⟨c,rfl,hc⟩
  .exact hk _ _ hv
  .exact hx _ _ hc
 .refine⟨dp,RoundIn.mono (F:=qo ro) h.2 fun e EN he=>?_⟩;rcases he with⟨v,rfl,hv⟩ | ⟨c,rfl,hc⟩
  .exact hk _ _ hv
  .exact hx _ _ hc
 .exact hx _ _ h
 .exact h.elim
theorem Bn{rd:Bool}{o:Oper}{ρ:Env}{K:Value->Pw}{w:Wd}(h:S1 P pk X rd o ρ K w):∀c,o.op ≠ .defer c:=fun c he=>by
 unfold S1 at h;rw[he]at h;simp only[PN,he]at h
theorem IG{ops:Array Oper}{o:Oper}{ρ:Env}{K:Value->Pw}{w:Wd}(h:opE P pk X ops o ρ K w):∀c,o.op ≠ .defer c:=fun c he=>by
 unfold opE at h;simp only[he]at h;exact Bn h c he
theorem Oj{ops:Array Oper}{o:Oper}{ρ:Env}{K:Value->Pw}{w:Wd}(h:opE P pk X ops o ρ K w):kV P X true o (ev ρ) K w:=by
 unfold opE at h;split at h
 .rename_i it he;split at h
  .exact .eN (by unfold execOp;rw[he]) h
  .exact kW h
 .exact kW h
theorem C4{ro:Option Nat}{ops:Array Oper}{M:Nat->Bool}{Q:Exit->Env->Pw}{ρ0:Env}:∀(l pre:List Oper)(ρ:Env)(w:Wd)(a:Act),ops.toList=pre++l->
  (∀o∈l,qk n o.dst=true)->(∀o∈l,∀m,M m=true->qm m o.dst=true)->Li P pk X ops pre.length l ρ (Q .normal) w->iM D n a ρ->ye M ρ0 ρ->
  wpOpsIn (qo ro) 0 P ops (jm D n Q X M ρ0) (List.range' pre.length l.length) a w
 | [],pre,ρ,w,a,_,_,_,h,hr,hf=>⟨ρ,hr,h,hf⟩
 | o::l,pre,ρ,w,a,he,hd,hm,h,hr,hf=>by
  have hi:ops[pre.length]? = some o:=by rw[<- Array.getElem?_toList,he];simp
  have next:∀v w',Li P pk X ops (pre.length+1) l (di ρ o.dst v) (Q .normal) w'->wpOpsIn (qo ro) 0 P ops (jm D n Q X M ρ0) (List.range' (pre.length+1) l.length) (a.put o.dst v) w':=fun v w' h'=>by
   have:=C4 (ro:=ro) (ops:=ops) l (pre++[o]) (di ρ o.dst v) w' (a.put o.dst v) (by simp[he]) (fun x hx=>hd x (by simp[hx])) (fun x hx=>hm x (by simp[hx])) (by simpa using h') (hr.di (hd o (by simp)) v) (hf.trans (.di (hm o (by simp)) v));simpa using this
  simp only[List.length_cons,List.range'_succ,wpOpsIn,hi,hr.wanted];rcases nJ h with⟨hw,hA⟩ | ⟨hw,hB⟩
  .rw[if_pos hw];refine FG (X:=X) (K:=fun v w'=>mF (S3 ops pre.length) v fun v=>Li P pk X ops (pre.length+1) l (di ρ o.dst v) (Q .normal) w') (IG hA) ?_ (fun v w' h'=>next v w' (gY (K:=fun v=>Li P pk X ops (pre.length+1) l (di ρ o.dst v) (Q .normal) w') h')) (fun c w' hx=>⟨hx,_,hr,hf⟩);rw[hr.eval];exact Oj hA
  .rw[if_neg (by simp[hw])];exact⟨fun _ _=>trivial,next _ _ hB⟩
theorem eZ{ops:Array Oper}{M:Nat->Bool}{ρ0:Env}{S:Pw}{i:Nat}{next:Env->Pw}{ρ:Env}{w:Wd}{a:Act}{K':Act->Pw}{Q:Exit->Act->Pw}
  (hd:∀o∈ops.toList,qk n o.dst=true) (hm:∀o∈ops.toList,∀m,M m=true->qm m o.dst=true) (h:yj P pk X ops S i next ρ w) (hS:S w) (hr:iM D n a ρ) (hf:ye M ρ0 ρ) (hx:∀c w',X c w'->Q (.panic c) a w')
  (hk:∀ρ' a' w',S w'->next ρ' w'->iM D n a' ρ'->ye M ρ0 ρ'->K' a' w'):wpOp P ops Q i (fun a' w'=>(S w'∨CN ops i=true)/\K' a' w') a w:=by
 unfold yj at h;split at h
 .rename_i o ho
  have jz:o∈ops.toList:=by
   have:o∈ops:=Array.mem_of_getElem? ho;simpa using this
  unfold wpOp;simp only[ho,hr.wanted];rcases nJ h with⟨hw,hA⟩ | ⟨hw,hB⟩
  .rw[if_pos hw];refine .inl (CB (X:=X) (K:=fun v w'=>S w'/\mF (S3 ops i) v fun v=>next (di ρ o.dst v) w') ?_ (fun v w' h'=>⟨.inl h'.1,hk _ _ _ h'.1 (gY (K:=fun v=>next (di ρ o.dst v) w') h'.2) (hr.di (hd o jz) v) (hf.trans (.di (hm o jz) v))⟩) hx);rw[hr.eval];exact kW hA
  .rw[if_neg (by simp[hw])];exact⟨.inl hS,hk _ _ _ hS hB (hr.di (hd o jz) undef) (hf.trans (.di (hm o jz) undef))⟩
 .exact h.elim
theorem IH{ops:Array Oper}{M:Nat->Bool}{Q:Exit->Env->Pw}{ρ0:Env}{S:Pw}(hd:∀o∈ops.toList,qk n o.dst=true)
  (hm:∀o∈ops.toList,∀m,M m=true->qm m o.dst=true) (Zx:Region.noSelect ops=true):∀(p:rG)(f:Nat)(li:Array Bool)(ρ:Env)(w:Wd)(a:Act),
  bT ops p f li=true->jG P pk X ops S p ρ (Q .normal) w->S w->pH ops li->iM D n a ρ->ye M ρ0 ρ->
  mA P ops (jm D n Q X M ρ0) S f li a w:=by
 intro p
 induction p with
 | fin=>
  intro f li ρ w a hp h hS zZ hr hf;simp only[bT,List.isEmpty_iff]at hp;exact ud hp ⟨ρ,hr,h,hf⟩ f
 | last i=>
  intro f li ρ w a hp h hS zZ hr hf
  cases f with
  | zero=>simp[bT]at hp
  | succ f=>
   simp only[bT,Bool.and_eq_true,beq_iff_eq,List.isEmpty_iff]at hp;refine nF hp.1.1 (by simp) fun j hj=>?_
   simp only[List.mem_singleton]at hj;subst hj;simp only[jG]at h;split at h
   .rename_i o ho
    have jz:o∈ops.toList:=by
     have:o∈ops:=Array.mem_of_getElem? ho;simpa using this
    unfold wpOp;simp only[ho,hr.wanted];rcases nJ h with⟨hw,hA⟩ | ⟨hw,hB⟩
    .rw[if_pos hw];refine .inl (CB (X:=X) (K:=fun v w'=>mF (S3 ops j) v fun v=>Q .normal (di ρ o.dst v) w') ?_ (fun v w' h'=>⟨.inr hp.1.2,ud hp.2 ⟨_,hr.di (hd o jz) v,gY (K:=fun v=>Q .normal (di ρ o.dst v) w') h',hf.trans (.di (hm o jz) v)⟩ f⟩) (fun c w' hx=>⟨hx,_,hr,hf⟩));rw[hr.eval];exact kW hA
    .rw[if_neg (by simp[hw])];exact⟨.inr hp.1.2,ud hp.2 ⟨_,hr.di (hd o jz) undef,hB,hf.trans (.di (hm o jz) undef)⟩ f⟩
   .exact h.elim
 | take i r ih=>
  intro f li ρ w a hp h hS zZ hr hf
  cases f with
  | zero=>simp[bT]at hp
  | succ f=>
   simp only[bT,Bool.and_eq_true]at hp;obtain⟨⟨h1,h2⟩,h3⟩:=hp;simp only[jG]at h;split at h
   .rename_i o ho
    have jz:o∈ops.toList:=by
     have:o∈ops:=Array.mem_of_getElem? ho;simpa using this
    have fin:∀v,YieldsIf P ops S o v a->jG P pk X ops S r (di ρ o.dst v) (Q .normal) w->mA P ops (jm D n Q X M ρ0) S (f+1) li a w:=fun v hy hh=>
     Im ho zZ Zx h1 h2 (fun c a w hq=>by obtain⟨h1,ρ',h2,h3⟩:=hq;exact⟨h1,h2.aaq h3 (hm o jz)⟩) hy hS
      (ih f _ _ _ _ h3 hh hS (zZ.set (by simpa using h2)) (hr.di (hd o jz) v) (hf.trans (.di (hm o jz) v)))
    rcases nJ h with⟨hw,hA⟩ | ⟨hw,hB⟩
    .obtain⟨v,hv,hk⟩:=ID hA;refine fin v (.inl ⟨by rw[hr.wanted];exact hw,?_⟩) (gY (K:=fun v=>jG P pk X ops S r (di ρ o.dst v) (Q .normal) w) hk);rw[hr.eval];exact hv
    .exact fin undef (.inr ⟨by rw[hr.wanted];exact hw,rfl⟩) hB
   .exact h.elim
 | one i r ih=>
  intro f li ρ w a hp h hS zZ hr hf
  cases f with
  | zero=>simp[bT]at hp
  | succ f=>
   simp only[bT,Bool.and_eq_true,beq_iff_eq]at hp;refine nF hp.1 (by simp) fun j hj=>?_
   have EP:j∈Region.ready .any ops li:=by rw[hp.1];exact hj
   simp only[List.mem_singleton]at hj;subst hj;exact eZ hd hm h hS hr hf (fun c w' hx=>⟨hx,_,hr,hf⟩) fun ρ' a' w' ED hn dK oE=>ih f _ _ _ _ hp.2 hn ED (zZ.set EP) dK oE
 | two i ri j rj Qo Qp=>
  intro f li ρ w a hp h hS zZ hr hf
  cases f with
  | zero=>simp[bT]at hp
  | succ f=>
   simp only[bT,Bool.and_eq_true,beq_iff_eq]at hp;refine nF hp.1.1 (by simp) fun x hx=>?_
   have EP:x∈Region.ready .any ops li:=by rw[hp.1.1];exact hx
   simp only[List.mem_cons,List.not_mem_nil,or_false]at hx;rcases hx with rfl | rfl
   .exact eZ hd hm h.1 hS hr hf (fun c w' hx=>⟨hx,_,hr,hf⟩) fun ρ' a' w' ED hn dK oE=>Qo f _ _ _ _ hp.1.2 hn ED (zZ.set EP) dK oE
   .exact eZ hd hm h.2 hS hr hf (fun c w' hx=>⟨hx,_,hr,hf⟩) fun ρ' a' w' ED hn dK oE=>Qp f _ _ _ _ hp.2 hn ED (zZ.set EP) dK oE
 | three i ri j rj k rk Qo Qp W6=>
  intro f li ρ w a hp h hS zZ hr hf
  cases f with
  | zero=>simp[bT]at hp
  | succ f=>
   simp only[bT,Bool.and_eq_true,beq_iff_eq]at hp;refine nF hp.1.1.1 (by simp) fun x hx=>?_
   have EP:x∈Region.ready .any ops li:=by rw[hp.1.1.1];exact hx
   simp only[List.mem_cons,List.not_mem_nil,or_false]at hx;rcases hx with rfl | rfl | rfl
   .exact eZ hd hm h.1 hS hr hf (fun c w' hx=>⟨hx,_,hr,hf⟩) fun ρ' a' w' ED hn dK oE=>Qo f _ _ _ _ hp.1.1.2 hn ED (zZ.set EP) dK oE
   .exact eZ hd hm h.2.1 hS hr hf (fun c w' hx=>⟨hx,_,hr,hf⟩) fun ρ' a' w' ED hn dK oE=>Qp f _ _ _ _ hp.1.2 hn ED (zZ.set EP) dK oE
   .exact eZ hd hm h.2.2 hS hr hf (fun c w' hx=>⟨hx,_,hr,hf⟩) fun ρ' a' w' ED hn dK oE=>W6 f _ _ _ _ hp.2 hn ED (zZ.set EP) dK oE
 | four i ri j rj k rk l rl Qo Qp W6 ihl=>
  intro f li ρ w a hp h hS zZ hr hf
  cases f with
  | zero=>simp[bT]at hp
  | succ f=>
   simp only[bT,Bool.and_eq_true,beq_iff_eq]at hp;refine nF hp.1.1.1.1 (by simp) fun x hx=>?_
   have EP:x∈Region.ready .any ops li:=by rw[hp.1.1.1.1];exact hx
   simp only[List.mem_cons,List.not_mem_nil,or_false]at hx;rcases hx with rfl | rfl | rfl | rfl
   .exact eZ hd hm h.1 hS hr hf (fun c w' hx=>⟨hx,_,hr,hf⟩) fun ρ' a' w' ED hn dK oE=>Qo f _ _ _ _ hp.1.1.1.2 hn ED (zZ.set EP) dK oE
   .exact eZ hd hm h.2.1 hS hr hf (fun c w' hx=>⟨hx,_,hr,hf⟩) fun ρ' a' w' ED hn dK oE=>Qp f _ _ _ _ hp.1.1.2 hn ED (zZ.set EP) dK oE
   .exact eZ hd hm h.2.2.1 hS hr hf (fun c w' hx=>⟨hx,_,hr,hf⟩) fun ρ' a' w' ED hn dK oE=>W6 f _ _ _ _ hp.1.2 hn ED (zZ.set EP) dK oE
   .exact eZ hd hm h.2.2.2 hS hr hf (fun c w' hx=>⟨hx,_,hr,hf⟩) fun ρ' a' w' ED hn dK oE=>ihl f _ _ _ _ hp.2 hn ED (zZ.set EP) dK oE
def iR:rG->Bool
 | .fin=>true
 | .last _=>false
 | .take _ _=>false
 | .one _ r=>iR r
 | .two _ ri _ rj=>iR ri && iR rj
 | .three _ ri _ rj _ rk=>iR ri && iR rj && iR rk
 | .four _ ri _ rj _ rk _ rl=>iR ri && iR rj && iR rk && iR rl
def bV:sV->Code->Bool
 | .draw p,.region _ _ _=>iR p
 | .seq a b,.seq x y=>bV a x && bV b y
 | .join _ _ a b,.seq x y=>bV a x && bV b y
 | .cond a b,.cond _ x y=>bV a x && bV b y
 | .block a,.block _ x=>bV a x
 | .loop _ _ a,.loop x=>bV a x
 | .scope a,.scope x=>bV a x
 | _,c=>rH c
theorem kV.rd{o:Oper}{ε:Operand->Value}{K:Value->Pw}{w:Wd}(h:kV P X false o ε K w):kV P X true o ε K w:=by
 unfold kV at *;split at h <;> first | exact h | exact absurd h.1 (by decide) | trivial
theorem e_{ro:Option Nat}{ops:Array Oper}{M:Nat->Bool}{ρ0:Env}{S:Pw}{i:Nat}{next:Env->Pw}{ρ:Env}{w:Wd}{a:Act}{K':Act->Pw}{Q:Exit->Act->Pw}
  (hd:∀o∈ops.toList,qk n o.dst=true) (hm:∀o∈ops.toList,∀m,M m=true->qm m o.dst=true) (h:yj P pk X ops S i next ρ w) (hr:iM D n a ρ) (hf:ye M ρ0 ρ) (hx:∀c w',X c w'->Q (.panic c) a w')
  (hk:∀ρ' a' w',next ρ' w'->iM D n a' ρ'->ye M ρ0 ρ'->K' a' w'):wpOpIn (qo ro) 0 P ops Q i K' a w:=by
 unfold yj at h;split at h
 .rename_i o ho
  have jz:o∈ops.toList:=by
   have:o∈ops:=Array.mem_of_getElem? ho;simpa using this
  unfold wpOpIn;simp only[ho,hr.wanted];rcases nJ h with⟨hw,hA⟩ | ⟨hw,hB⟩
  .rw[if_pos hw];refine FG (X:=X) (K:=fun v w'=>S w'/\mF (S3 ops i) v fun v=>next (di ρ o.dst v) w') (Bn hA) ?_ (fun v w' h'=>hk _ _ _ (gY (K:=fun v=>next (di ρ o.dst v) w') h'.2) (hr.di (hd o jz) v) (hf.trans (.di (hm o jz) v))) hx;rw[hr.eval];exact(kW hA).rd
  .rw[if_neg (by simp[hw])];exact⟨fun _ _=>trivial,hk _ _ _ hB (hr.di (hd o jz) undef) (hf.trans (.di (hm o jz) undef))⟩
 .exact h.elim
theorem II{ro:Option Nat}{ops:Array Oper}{M:Nat->Bool}{Q:Exit->Env->Pw}{ρ0:Env}{S:Pw}(hd:∀o∈ops.toList,qk n o.dst=true)
  (hm:∀o∈ops.toList,∀m,M m=true->qm m o.dst=true):∀(p:rG)(f:Nat)(li:Array Bool)(ρ:Env)(w:Wd)(a:Act),iR p=true->
  bT ops p f li=true->jG P pk X ops S p ρ (Q .normal) w->iM D n a ρ->ye M ρ0 ρ->
  wpAnyIn (qo ro) 0 P .any ops (jm D n Q X M ρ0) f li a w:=by
 have all:∀{l:List Nat}{f:Nat}{li:Array Bool}{a:Act}{w:Wd},Region.ready .any ops li=l->l≠[]->(∀i∈l,wpOpIn (qo ro) 0 P ops (jm D n Q X M ρ0) i (wpAnyIn (qo ro) 0 P .any ops (jm D n Q X M ρ0) f (li.setIfInBounds i true)) a w)->wpAnyIn (qo ro) 0 P .any ops (jm D n Q X M ρ0) (f+1) li a w:=
  fun {l f li a w} h1 h2 h3=>⟨fun h=>(h2 (h1.symm.trans h)).elim,fun i hi=>h3 i (by rw[<- h1];exact hi)⟩
 intro p
 induction p with
 | fin=>
  intro f li ρ w a _ hp h hr hf;simp only[bT,List.isEmpty_iff]at hp
  cases f with
  | zero=>exact⟨hp,ρ,hr,h,hf⟩
  | succ f=>exact⟨fun _=>⟨ρ,hr,h,hf⟩,fun i hi=>by rw[hp]at hi;cases hi⟩
 | last i=>intro f li ρ w a ht;cases ht
 | take i r ih=>intro f li ρ w a ht;cases ht
 | one i r ih=>
  intro f li ρ w a ht hp h hr hf
  cases f with
  | zero=>simp[bT]at hp
  | succ f=>
   simp only[bT,Bool.and_eq_true,beq_iff_eq]at hp;refine all hp.1 (by simp) fun j hj=>?_
   simp only[List.mem_singleton]at hj;subst hj;exact e_ hd hm h hr hf (fun c w' hx=>⟨hx,_,hr,hf⟩) fun ρ' a' w' hn dK oE=>ih f _ _ _ _ ht hp.2 hn dK oE
 | two i ri j rj Qo Qp=>
  intro f li ρ w a ht hp h hr hf;simp only[iR,Bool.and_eq_true]at ht
  cases f with
  | zero=>simp[bT]at hp
  | succ f=>
   simp only[bT,Bool.and_eq_true,beq_iff_eq]at hp;refine all hp.1.1 (by simp) fun x hx=>?_
   simp only[List.mem_cons,List.not_mem_nil,or_false]at hx;rcases hx with rfl | rfl
   .exact e_ hd hm h.1 hr hf (fun c w' hx=>⟨hx,_,hr,hf⟩) fun ρ' a' w' hn dK oE=>Qo f _ _ _ _ ht.1 hp.1.2 hn dK oE
   .exact e_ hd hm h.2 hr hf (fun c w' hx=>⟨hx,_,hr,hf⟩) fun ρ' a' w' hn dK oE=>Qp f _ _ _ _ ht.2 hp.2 hn dK oE
 | three i ri j rj k rk Qo Qp W6=>
  intro f li ρ w a ht hp h hr hf;simp only[iR,Bool.and_eq_true]at ht
  cases f with
  | zero=>simp[bT]at hp
  | succ f=>
   simp only[bT,Bool.and_eq_true,beq_iff_eq]at hp;refine all hp.1.1.1 (by simp) fun x hx=>?_
   simp only[List.mem_cons,List.not_mem_nil,or_false]at hx;rcases hx with rfl | rfl | rfl
   .exact e_ hd hm h.1 hr hf (fun c w' hx=>⟨hx,_,hr,hf⟩) fun ρ' a' w' hn dK oE=>Qo f _ _ _ _ ht.1.1 hp.1.1.2 hn dK oE
   .exact e_ hd hm h.2.1 hr hf (fun c w' hx=>⟨hx,_,hr,hf⟩) fun ρ' a' w' hn dK oE=>Qp f _ _ _ _ ht.1.2 hp.1.2 hn dK oE
   .exact e_ hd hm h.2.2 hr hf (fun c w' hx=>⟨hx,_,hr,hf⟩) fun ρ' a' w' hn dK oE=>W6 f _ _ _ _ ht.2 hp.2 hn dK oE
 | four i ri j rj k rk l rl Qo Qp W6 ihl=>
  intro f li ρ w a ht hp h hr hf;simp only[iR,Bool.and_eq_true]at ht
  cases f with
  | zero=>simp[bT]at hp
  | succ f=>
   simp only[bT,Bool.and_eq_true,beq_iff_eq]at hp;refine all hp.1.1.1.1 (by simp) fun x hx=>?_
   simp only[List.mem_cons,List.not_mem_nil,or_false]at hx;rcases hx with rfl | rfl | rfl | rfl
   .exact e_ hd hm h.1 hr hf (fun c w' hx=>⟨hx,_,hr,hf⟩) fun ρ' a' w' hn dK oE=>Qo f _ _ _ _ ht.1.1.1 hp.1.1.1.2 hn dK oE
   .exact e_ hd hm h.2.1 hr hf (fun c w' hx=>⟨hx,_,hr,hf⟩) fun ρ' a' w' hn dK oE=>Qp f _ _ _ _ ht.1.1.2 hp.1.1.2 hn dK oE
   .exact e_ hd hm h.2.2.1 hr hf (fun c w' hx=>⟨hx,_,hr,hf⟩) fun ρ' a' w' hn dK oE=>W6 f _ _ _ _ ht.1.2 hp.1.2 hn dK oE
   .exact e_ hd hm h.2.2.2 hr hf (fun c w' hx=>⟨hx,_,hr,hf⟩) fun ρ' a' w' hn dK oE=>ihl f _ _ _ _ ht.2 hp.2 hn dK oE
theorem Ak:∀(l:List (Nat×Sh))(J:Zz l)(ρ:Env)(w:Wd)(F:Env->Pw)(base:Env),IE l J ρ w->Tv l J base F->
  (∀t,(l.all fun p=>decide (p.1≠t))=true->base t=ρ t)->F ρ w
 | [],J,ρ,w,F,base,ha,lV,hb=>by
  have:base=ρ:=funext fun t=>hb t rfl
  subst this;exact lV w ha
 | (t,s)::r,J,ρ,w,F,base,ha,lV,hb=>by
  obtain⟨x,hx,hr⟩:=Sh.CP ha;refine Ak r (J x) ρ w F _ hr (lV x) fun u hu=>?_
  by_cases e:u=t
  .subst e;rw[Ip,hx]
  .rw[K6 _ _ e];refine hb u ?_;simp only[List.all_cons,Bool.and_eq_true,decide_eq_true_eq];exact⟨fun h=>e h.symm,hu⟩
theorem Qq{mask:Nat}{ρ ρ':Env}(h:∀t,Nat.testBit mask t=false->ρ' t=ρ t):mix mask ρ' ρ=ρ':=by
 funext t;unfold mix
 cases hb:Nat.testBit mask t with
 | true=>rfl
 | false=>exact(h t hb).symm
theorem Gq{F:Fence}{c:Code}{Q:Exit->Act->Pw}(I:Nat->Act->Pw)
  (round:∀m a w,I m a w->c.wpIn F 0 P (Exit.then (fun a' w'=>∃m',m' < m/\I m' a' w') Q) a w) {m:Nat} {a:Act} {w:Wd} (h₀:I m a w):(Code.loop c).wpIn F 0 P Q a w:=by
 classical
 have least:∀a w,(∃m,I m a w)->∃m,I m a w/\∀k,I k a w->m<=k:=fun a w ⟨m,hm⟩=>by
  induction m using Nat.strongRecOn with
  | _ m ih=>
   by_cases hk:∃k,k < m/\I k a w
   .obtain⟨k,hk,hI⟩:=hk;exact ih k hk hI
   .exact⟨m,hm,fun k hI=>by
     rcases Nat.lt_or_ge k m with h | h
     .exact absurd ⟨k,h,hI⟩ hk
     .exact h⟩
 refine wpIn_loop (fun a w=>∃m,I m a w) (fun a w=>if h:∃m,I m a w then Classical.choose (least a w h) else 0) ⟨m,h₀⟩ ?_;intro a w hI;have hs:=Classical.choose_spec (least a w hI);refine wpIn_mono (round _ a w hs.1) ?_;intro e a' w' hq
 cases e with
 | normal=>
  obtain⟨m',aV,hI'⟩:=hq;refine⟨⟨m',hI'⟩,?_⟩;rw[dif_pos hI,dif_pos ⟨m',hI'⟩];exact Nat.lt_of_le_of_lt ((Classical.choose_spec (least a' w' ⟨m',hI'⟩)).2 m' hI') aV
 | _=>exact hq
theorem vF{F:Fence}{c:Code}{Q:Exit->Act->Pw}{a:Act}{w:Wd}(hF:F=Fence.wide)(h:c.wpIn F 0 P (Exit.noGoto Q) a w):(Code.scope c).wpIn F 0 P Q a w:=by
 subst hF;exact wpIn_wide.2 (wp_scope_straight (wpIn_wide.1 h))
def cq:Code->Bool
 | .seq a b=>cq a && cq b
 | .cond _ a b=>cq a && cq b
 | .block _ a=>cq a
 | .scope _=>false
 | .loop a=>cq a
 | _=>true
theorem Qr{ops:Array Oper}{aC:Array Bool}(hl:aC.size=ops.size)(ha:yk ops=true)(h:Region.ready .any ops aC=[]):∀i,i < ops.size->aC.getD i false=true:=by
 intro i
 induction i using Nat.strongRecOn with
 | _ i ih=>
  intro hi
  cases hd:aC.getD i false with
  | true=>rfl
  | false=>
   exfalso
   have hm:i∈Region.ready .any ops aC:=by
    refine mem_ready.2 ⟨by simpa[hl,hi] using hd,ops[i],by simp[hi],fun e he _=>ih e.on ?_ ?_⟩
    .simp only[yk,List.all_eq_true,List.mem_range]at ha;have:=ha i hi;simp only[hi,getElem?_pos,List.all_eq_true]at this;have:=this e (by simpa using he);simp[Nat.blt]at this;omega
    .simp only[yk,List.all_eq_true,List.mem_range]at ha;have:=ha i hi;simp only[hi,getElem?_pos,List.all_eq_true]at this;have:=this e (by simpa using he);simp[Nat.blt]at this;omega
   rw[h]at hm;cases hm
theorem Lj{ops:Array Oper}{M:Nat->Bool}{Q:Exit->Env->Pw}{ρ0:Env}{Inv:(Nat->Bool)->Env->Pw}(hd:∀o∈ops.toList,qk n o.dst=true)
  (hm:∀o∈ops.toList,∀m,M m=true->qm m o.dst=true) (ha:yk ops=true) (W7:∀d ρ w,Inv d ρ w->(∀i,i < ops.size->d i=true)->Q .normal ρ w)
  (aar:∀d ρ w,Inv d ρ w->∀i,d i=false->Gp ops i d=true->Qn P pk X ops i (fun ρ' w'=>Inv (FF d i) ρ' w') ρ w) :
  ∀(f:Nat)(aC:Array Bool)(ρ:Env)(w:Wd)(a:Act),aC.size=ops.size->aC.toList.count false<=f->Inv (fun i=>aC.getD i false) ρ w->iM D n a ρ->ye M ρ0 ρ->wpAny P .any ops (jm D n Q X M ρ0) f aC a w:=by
 intro f
 have fin:∀(aC:Array Bool)(ρ:Env)(w:Wd)(a:Act),aC.size=ops.size->Inv (fun i=>aC.getD i false) ρ w->iM D n a ρ->ye M ρ0 ρ->Region.ready .any ops aC=[]->jm D n Q X M ρ0 .normal a w:=fun aC ρ w a hl hi hr hf h=>⟨ρ,hr,W7 _ ρ w hi (Qr hl ha h),hf⟩
 induction f with
 | zero=>
  intro aC ρ w a hl hc hi hr hf
  have lV:∀i,i < ops.size->aC.getD i false=true:=fun i h=>by
   cases hb:aC.getD i false with
   | true=>rfl
   | false=>
    exfalso;have aV:i < aC.size:=by omega
    have:false∈aC.toList:=by
     have e:aC[i]=false:=by simpa[aV] using hb
     rw[<- e];simp
    have:=List.count_pos_iff.2 this;omega
  have IJ:Region.ready .any ops aC=[]:=by
   rw[List.eq_nil_iff_forall_not_mem];intro i h;obtain⟨h1,o,ho,_⟩:=mem_ready.1 h;have aV:i < ops.size:=(Array.getElem?_eq_some_iff.1 ho).1;have:=lV i aV;have Gh:i < aC.size:=by omega
   simp[Gh]at h1 this;rw[h1]at this;cases this
  exact⟨IJ,fin aC ρ w a hl hi hr hf IJ⟩
 | succ f ih=>
  intro aC ρ w a hl hc hi hr hf;refine⟨fun h=>fin aC ρ w a hl hi hr hf h,fun i hri=>?_⟩;obtain⟨h1,o,ho,h2⟩:=mem_ready.1 hri;have aV:i < ops.size:=(Array.getElem?_eq_some_iff.1 ho).1;have Gh:i < aC.size:=by omega
  have Vj:aC.getD i false=false:=by simpa[Gh] using h1
  have haf:Gp ops i (fun i=>aC.getD i false)=true:=by
   unfold Gp;rw[ho];simp only[List.all_eq_true,Bool.or_eq_true,Bool.not_eq_true'];intro e he
   cases hb:Region.binds .any e with
   | false=>exact .inl rfl
   | true=>exact .inr (h2 e (by simpa using he) hb)
  have hs:=aar _ ρ w hi i Vj haf
  have jz:o∈ops.toList:=by
   have:o∈ops:=Array.mem_of_getElem? ho;simpa using this
  have ZA:FF (fun i=>aC.getD i false) i=fun j=>(aC.setIfInBounds i true).getD j false:=by
   funext j;unfold FF;by_cases e:j=i
   .subst e;simp[Gh]
   .have:Nat.beq j i=false:=by
     cases hb:Nat.beq j i with
     | false=>rfl
     | true=>exact absurd (Nat.eq_of_beq_eq_true hb) e
    have e2:¬ i=j:=fun h=>e h.symm
    simp[this,e2]
  have aas:(aC.setIfInBounds i true).toList.count false<=f:=by
   rw[Array.toList_setIfInBounds];have e1:aC.toList[i]'(by simpa using Gh)=false:=by simpa[Gh] using Vj
   have h5:aC.toList=aC.toList.take i++false::aC.toList.drop (i+1):=by
    rw[<- e1];exact(List.take_append_drop i _).symm.trans (by rw[List.drop_eq_getElem_cons])
   have h6:aC.toList.set i true=aC.toList.take i++true::aC.toList.drop (i+1):=by
    rw[List.set_eq_take_append_cons_drop,if_pos (by simpa using Gh)]
   rw[h6];rw[h5]at hc;simp only[List.count_append,List.count_cons]at hc ⊢;simp at hc ⊢;omega
  have next:∀ρ' a' w',Inv (FF (fun i=>aC.getD i false) i) ρ' w'->iM D n a' ρ'->ye M ρ0 ρ'->wpAny P .any ops (jm D n Q X M ρ0) f (aC.setIfInBounds i true) a' w':=fun ρ' a' w' h dK oE=>ih _ ρ' w' a' (by simp[hl]) aas (ZA ▸ h) dK oE
  unfold Qn at hs;rw[ho]at hs;unfold wpOp;simp only[ho,hr.wanted];rcases nJ hs with⟨hw,hA⟩ | ⟨hw,hB⟩
  .rw[if_pos hw];refine .inl (CB (X:=X) (K:=fun v w'=>Inv (FF (fun i=>aC.getD i false) i) (di ρ o.dst v) w') ?_ (fun v w' h'=>next _ _ _ h' (hr.di (hd o jz) v) (hf.trans (.di (hm o jz) v))) (fun c w' hx=>⟨hx,_,hr,hf⟩));rw[hr.eval];exact kW hA
  .rw[if_neg (by simp[hw])];exact next _ _ _ hB (hr.di (hd o jz) undef) (hf.trans (.di (hm o jz) undef))
theorem fZ{ro:Option Nat}:∀(ann:sV)(c:Code)(Q:Exit->Env->Pw)(ρ:Env)(w:Wd)(a:Act),(ro=none∨(bV ann c=true/\cq c=true))->vD P n ann c=true->uj P pk X ann c Q ρ w->iM D n a ρ->
  c.wpIn (qo ro) 0 P (jm D n Q X (fun m=>dB m c) ρ) a w:=by
 intro ann
 induction ann with
 | nil=>
  intro c Q ρ w a Gr hc h hr
  cases c <;> (try simp only[uj]at h) <;> try exact h.elim
  case skip=>exact wpIn_skip ⟨ρ,hr,h,.refl _ _⟩
  case label l=>exact wpIn_label ⟨ρ,hr,h,.refl _ _⟩
  case exit i=>exact wpIn_exit ⟨ρ,hr,h,.refl _ _⟩
  case goto l=>exact wpIn_goto ⟨ρ,hr,h,.refl _ _⟩
  case ret=>exact wpIn_ret ⟨ρ,hr,h,.refl _ _⟩
  case region id ops d=>
   cases d with
   | true=>exact h.elim
   | false=>
   simp only[vD,List.all_eq_true]at hc;refine wpIn_region ?_
   have:=C4 (ro:=ro) (n:=n) (M:=fun m=>dB m (.region id ops false)) (Q:=Q) (ρ0:=ρ) ops.toList [] ρ w a rfl hc (fun o ho m hm=>by
    simp only[dB,List.all_eq_true]at hm;exact hm o ho) h hr (.refl _ _)
   simpa[List.range_eq_range'] using this
 | draw p=>
  intro c Q ρ w a Gr hc h hr
  cases c <;> (try simp only[uj]at h) <;> try exact h.elim
  rename_i id ops d
  cases d with
  | false=>exact h.elim
  | true=>
  obtain⟨S,hS,h⟩:=h;simp only[vD,Bool.and_eq_true,List.all_eq_true]at hc
  have hmm:∀o∈ops.toList,∀m,dB m (.region id ops true)=true->qm m o.dst=true:=fun o ho m hm=>by
   simp only[dB,List.all_eq_true]at hm;exact hm o ho
  rcases Gr with Gs | Gs
  .subst Gs;exact wpIn_wide.2 (Io hc.1.2 (IH hc.1.1.1 hmm hc.1.1.2 p _ _ ρ _ a hc.2 h hS pH.start hr (.refl _ _)))
  .exact wpIn_region_any hc.1.2 (II hc.1.1.1 hmm p _ _ ρ _ a Gs.1 hc.2 h hr (.refl _ _))
 | free=>
  intro c Q ρ w a Gr hc h hr
  cases c <;> (try simp only[uj]at h) <;> try exact h.elim
  rename_i id ops d
  cases d with
  | false=>exact h.elim
  | true=>
  rcases Gr with Gs | Gs
  .subst Gs;simp only[vD,Bool.and_eq_true,List.all_eq_true]at hc
   have hmm:∀o∈ops.toList,∀m,dB m (.region id ops true)=true->qm m o.dst=true:=fun o ho m hm=>by
    simp only[dB,List.all_eq_true]at hm;exact hm o ho
   obtain⟨Inv,h1,h2,h3⟩:=h;refine wpIn_wide.2 (wp_region_any hc.1.2 (Lj (Inv:=Inv) hc.1.1 hmm hc.2 h2 h3 _ _ ρ _ a (by simp) ?_ ?_ hr (.refl _ _)))
   .simp
   .have e:(fun i=>(Array.replicate ops.size false).getD i false)=fun _=>false:=by
     funext i;rcases Nat.lt_or_ge i ops.size with h | h <;> simp[h]
    rw[e];exact h1
  .simp[bV,rH]at Gs
 | seq x y Qs ihy=>
  intro c Q ρ w a Gr hc h hr
  cases c <;> simp only[uj]at h
  rename_i cx cy;simp only[vD,Bool.and_eq_true]at hc;have hx:ro=none∨(bV x cx=true/\cq cx=true):=Gr.imp id fun h=>by simp only[bV,cq,Bool.and_eq_true]at h;exact⟨h.1.1,h.2.1⟩
  have hy:ro=none∨(bV y cy=true/\cq cy=true):=Gr.imp id fun h=>by simp only[bV,cq,Bool.and_eq_true]at h;exact⟨h.1.2,h.2.2⟩
  refine wpIn_seq (wpIn_mono (Qs cx (ui (uj P pk X y cy Q) Q) ρ w a hx hc.1 h hr) ?_);intro e a' w' hp;have m1:∀m,dB m (.seq cx cy)=true->dB m cx=true:=fun m hm=>by simp only[dB,Bool.and_eq_true]at hm;exact hm.1
  have m2:∀m,dB m (.seq cx cy)=true->dB m cy=true:=fun m hm=>by simp only[dB,Bool.and_eq_true]at hm;exact hm.2
  cases e with
  | normal=>
   obtain⟨ρ',dK,hq,hf⟩:=hp;exact wpIn_mono (ihy cy Q ρ' w' a' hy hc.2 hq dK) fun e a'' EN hp=>(hp.mono m2).from (hf.mono m1)
  | panic c=>obtain⟨hx,ρ',dK,hf⟩:=hp;exact⟨hx,ρ',dK,hf.mono m1⟩
  | outgrown=>exact hp
  | exit i=>obtain⟨ρ',dK,hq,hf⟩:=hp;exact⟨ρ',dK,hq,hf.mono m1⟩
  | goto i=>obtain⟨ρ',dK,hq,hf⟩:=hp;exact⟨ρ',dK,hq,hf.mono m1⟩
  | ret=>obtain⟨ρ',dK,hq,hf⟩:=hp;exact⟨ρ',dK,hq,hf.mono m1⟩
 | join l mask x y Qs ihy=>
  intro c Q ρ w a Gr hc h hr
  cases c <;> simp only[uj]at h
  rename_i cx cy;simp only[vD,Bool.and_eq_true]at hc;have hx:ro=none∨(bV x cx=true/\cq cx=true):=Gr.imp id fun h=>by simp only[bV,cq,Bool.and_eq_true]at h;exact⟨h.1.1,h.2.1⟩
  have hy:ro=none∨(bV y cy=true/\cq cy=true):=Gr.imp id fun h=>by simp only[bV,cq,Bool.and_eq_true]at h;exact⟨h.1.2,h.2.2⟩
  obtain⟨J,h1,h2⟩:=h;refine wpIn_seq (wpIn_mono (Qs cx (ui (IE l J) Q) ρ w a hx hc.1.1.1 h1 hr) ?_);intro e a' w' hp;have m1:∀m,dB m (.seq cx cy)=true->dB m cx=true:=fun m hm=>by simp only[dB,Bool.and_eq_true]at hm;exact hm.1
  have m2:∀m,dB m (.seq cx cy)=true->dB m cy=true:=fun m hm=>by simp only[dB,Bool.and_eq_true]at hm;exact hm.2
  cases e with
  | normal=>
   obtain⟨ρ',dK,hq,hf⟩:=hp;have W8:=Qq (hf mask hc.1.2);have:=Ak l J ρ' w' _ (mix mask ρ' ρ) hq (h2 ρ') (fun t _=>by rw[W8]);exact wpIn_mono (ihy cy Q ρ' w' a' hy hc.1.1.2 this dK) fun e a'' EN hp=>(hp.mono m2).from (hf.mono m1)
  | panic c=>obtain⟨hx,ρ',dK,hf⟩:=hp;exact⟨hx,ρ',dK,hf.mono m1⟩
  | outgrown=>exact hp
  | exit i=>obtain⟨ρ',dK,hq,hf⟩:=hp;exact⟨ρ',dK,hq,hf.mono m1⟩
  | goto i=>obtain⟨ρ',dK,hq,hf⟩:=hp;exact⟨ρ',dK,hq,hf.mono m1⟩
  | ret=>obtain⟨ρ',dK,hq,hf⟩:=hp;exact⟨ρ',dK,hq,hf.mono m1⟩
 | cond x y Qs ihy=>
  intro c Q ρ w a Gr hc h hr
  cases c <;> simp only[uj]at h
  rename_i v cx cy;simp only[vD,Bool.and_eq_true]at hc;have hx:ro=none∨(bV x cx=true/\cq cx=true):=Gr.imp id fun h=>by simp only[bV,cq,Bool.and_eq_true]at h;exact⟨h.1.1,h.2.1⟩
  have hy:ro=none∨(bV y cy=true/\cq cy=true):=Gr.imp id fun h=>by simp only[bV,cq,Bool.and_eq_true]at h;exact⟨h.1.2,h.2.2⟩
  unfold Vn at h;split at h
  .rename_i b hb;have he:a.eval v = .bool b:=by rw[hr.eval];exact hb
   refine wpIn_cond_split he (fun hb=>?_) (fun hb=>?_)
   .exact wpIn_mono (Qs cx Q ρ w a hx hc.1 (h.out.1 hb) hr) fun e a' w' hp=>hp.mono fun m hm=>by simp only[dB,Bool.and_eq_true]at hm;exact hm.1
   .exact wpIn_mono (ihy cy Q ρ w a hy hc.2 (h.out.2 hb) hr) fun e a' w' hp=>hp.mono fun m hm=>by simp only[dB,Bool.and_eq_true]at hm;exact hm.2
  .exact h.elim
 | block x Qs=>
  intro c Q ρ w a Gr hc h hr
  cases c <;> simp only[uj]at h
  rename_i id cx;simp only[vD]at hc;refine wpIn_block (wpIn_mono (Qs cx (C3 id Q) ρ w a (Gr.imp (fun h=>h) fun h=>by simpa only[bV,cq] using h) hc h hr) ?_);intro e a' w' hp
  cases e with
  | exit i=>
   obtain⟨ρ',dK,hq,hf⟩:=hp;simp only[C3]at hq;simp only[Exit.inBlock]
   cases hb:Nat.beq i id with
   | true=>
    have:=Nat.eq_of_beq_eq_true hb;subst this;rw[hb]at hq;rw[if_pos rfl];exact⟨ρ',dK,hq,hf⟩
   | false=>
    rw[hb]at hq;rw[if_neg (fun e=>by subst e;simp at hb)];exact⟨ρ',dK,hq,hf⟩
  | panic c=>exact hp
  | outgrown=>exact hp
  | normal=>obtain⟨ρ',dK,hq,hf⟩:=hp;exact⟨ρ',dK,hq,hf⟩
  | goto i=>obtain⟨ρ',dK,hq,hf⟩:=hp;exact⟨ρ',dK,hq,hf⟩
  | ret=>obtain⟨ρ',dK,hq,hf⟩:=hp;exact⟨ρ',dK,hq,hf⟩
 | scope x Qs=>
  intro c Q ρ w a Gr hc h hr
  cases c <;> simp only[uj]at h
  rename_i cx;simp only[vD]at hc;have Gs:ro=none:=Gr.resolve_right (by simp[cq]);subst Gs;refine vF rfl (wpIn_mono (Qs cx (Qm Q) ρ w a (.inl rfl) hc h hr) ?_);intro e a' w' hp
  cases e with
  | goto i=>obtain⟨ρ',dK,hq,hf⟩:=hp;exact hq.elim
  | panic c=>exact hp
  | outgrown=>exact hp
  | normal=>obtain⟨ρ',dK,hq,hf⟩:=hp;exact⟨ρ',dK,hq,hf⟩
  | exit i=>obtain⟨ρ',dK,hq,hf⟩:=hp;exact⟨ρ',dK,hq,hf⟩
  | ret=>obtain⟨ρ',dK,hq,hf⟩:=hp;exact⟨ρ',dK,hq,hf⟩
 | loop l mask x Qs=>
  intro c Q ρ w a Gr hc h hr
  cases c <;> simp only[uj]at h
  rename_i cx;simp only[vD,Bool.and_eq_true]at hc;have hx:ro=none∨(bV x cx=true/\cq cx=true):=Gr.imp id fun h=>by simpa only[bV,cq] using h
  obtain⟨I,⟨m,hm⟩,W9⟩:=h;refine Gq (fun m a w=>∃ρ',iM D n a ρ'/\IE l (I m) ρ' w/\ye (fun m=>dB m (.loop cx)) ρ ρ') ?_ ⟨ρ,hr,hm,.refl _ _⟩;rintro m a w ⟨ρ',dK,ha,hf⟩;have W8:=Qq (hf mask hc.1.2);have:=Ak l (I m) ρ' w _ (mix mask ρ' ρ) ha (W9 ρ' m) (fun t _=>by rw[W8]);refine wpIn_mono (Qs cx (ui (fun ρ'' EN=>∃m',m' < m/\IE l (I m') ρ'' EN) Q) ρ' w a hx hc.1.1 this dK) ?_;intro e a'' EN hp;have S0:∀m,dB m (.loop cx)=true->dB m cx=true:=fun m hm=>by simpa only[dB] using hm
  have hp:=(hp.mono S0).from hf
  cases e with
  | normal=>obtain⟨ρ'',acM,hq,hf3⟩:=hp;obtain⟨m',aV,hq⟩:=hq;exact⟨m',aV,ρ'',acM,hq,hf3⟩
  | panic c=>exact hp
  | outgrown=>exact hp
  | exit i=>exact hp
  | goto i=>exact hp
  | ret=>exact hp
def Tw(tmps:Array Value):ResultVar->Sem Value
 | .tmp t=>pure (tmps.getD t undef)
 | .cell x t=>do loadVar t (<- asAddr (tmps.getD x undef))
theorem wI{a:Act}{ρ:Env}{w:Wd}(hr:iM D n a ρ):∀(rs:List ResultVar)(F:List Value->Prop),vE P rs ρ w F->
  ∃vs,(rs.mapM (Tw a.tmps)).run P w = .ok vs w/\F vs
 | [],F,h=>⟨[],by simp,h⟩
 | .tmp t::r,F,h=>by
  obtain⟨vs,h1,h2⟩:=wI hr r _ h;refine⟨_,?_,h2⟩;have e:(Tw a.tmps (.tmp t)).run P w = .ok (ρ t) w:=by rw[<- hr.get t];rfl
  rw[List.mapM_cons,Sem.run_bind,e,Result.andThen_ok,Sem.run_bind,h1];rfl
 | .cell x t::r,F,h=>by
  obtain⟨v,hv,h⟩:=ug h;obtain⟨vs,h1,h2⟩:=wI hr r _ h;refine⟨_,?_,h2⟩
  have hx:(Tw a.tmps (.cell x t)).run P w = .ok v w:=by
   have:=hv w (fun _ _ h=>h);show(do loadVar t (<- asAddr (a.tmps.getD x undef)):Sem Value).run P w=_;rw[hr.get]
   cases hp:ρ x <;> rw[hp]at this <;> simp only[Instr.loadAt,Instr.sureAddr,Sem.run_bind]at this <;> first | (simp[stuck]at this;done) | skip
   rename_i p
   cases p with
   | none=>simp[stuck]at this
   | some p=>simpa[asAddr] using this
  rw[List.mapM_cons,Sem.run_bind,hx,Result.andThen_ok,Sem.run_bind,h1];rfl
theorem lX{fn:Func}{a:Act}{ρ:Env}{w:Wd}(hr:iM D n a ρ){F:List Value->Prop}(h:vE P fn.results.toList ρ w F):∃vs,(results fn a.tmps).run P w = .ok (iB vs) w/\F vs:=by
 obtain⟨vs,h1,h2⟩:=wI hr fn.results.toList F h;refine⟨vs,?_,h2⟩
 have e0:results fn a.tmps=(do let vs<- fn.results.mapM (Tw a.tmps);pure (if h:vs.size=1 then vs[0] else .tuple vs)):=by
  unfold results;congr 1
 rw[e0,Array.mapM_eq_mapM_toList,Sem.run_bind,Sem.run_map]
 have e:∀(r:Result (List Value)),r = .ok vs w->((r.andThen fun a w'=>Result.ok a.toArray w').andThen fun vs w'=>Sem.run P (pure (if h:vs.size=1 then vs[0] else .tuple vs)) w') = .ok (iB vs) w:=by
  intro r hr;subst hr;simp only[Result.andThen_ok,Sem.run_pure];congr 1
  match vs with
  | []=>rfl
  | [v]=>rfl
  | _::_::_=>simp[iB]
 exact e _ h1
def W_(P:Program)(f:FuncId)(args:Array Value)(l:List Ty)(K:jC l)(X:PX)(w:Wd):Prop:=
 Calls P f args w (fun e w'=>Gc l K (fun vs Y=>e = .returned (iB vs)/\Y w')∨∃c,e = .panicked c/\X c w')
theorem uk{args:List Value}{m:Nat}(ha:Nat.ble args.length m=true):iM [] m { tmps:=args.toArray++Array.replicate (m - args.toArray.size) undef,defers:=[] } (mC args):=by
 have hle:=Nat.le_of_ble_eq_true ha;refine⟨rfl,by simp;omega,fun t=>?_⟩;simp only[mC];rcases Nat.lt_or_ge t args.length with h | h
 .simp[Array.getElem?_append,h]
 .simp[List.getD,Array.getElem?_append,Array.getElem?_replicate,Nat.not_lt.2 h];split <;> rfl
theorem Ok{f:FuncId}{fn:Func}{c:Code}{ann:sV}{args:List Value}{tys:List Ty}{K:jC tys}{w:Wd}(hf:P.funcs[f]? = some fn)(hb:fn.body=some c)
  (hc:vD P fn.ntmps ann c=true) (ha:Nat.ble args.length fn.ntmps=true) (h:uj P pk X ann c (IF P tys fn.results.toList K) (mC args) w):W_ P f args.toArray tys K X w:=by
 refine calls_of_wp hf hb (wp_mono (wpIn_wide.1 (fZ (ro:=none) (n:=fn.ntmps) (D:=[]) ann c _ _ w _ (.inl rfl) hc h (uk ha))) ?_);intro e a' w' hp
 have fin:∀{ρ':Env},iM [] fn.ntmps a' ρ'->vE P fn.results.toList ρ' w' (fun vs=>pI tys vs K w')->∃v,(results fn a'.tmps).run P w' = .ok v w'/\(Gc tys K (fun vs Y=>Ending.returned v = .returned (iB vs)/\Y w')∨∃c,Ending.returned v = .panicked c/\X c w'):=fun dK hq=>by
  obtain⟨vs,h1,h2⟩:=lX dK hq;exact⟨_,h1,.inl (jD tys K (fun us X hh=>⟨by rw[hh.1],hh.2⟩) (nA tys vs K w' h2))⟩
 cases e with
 | normal=>obtain⟨ρ',dK,hq,_⟩:=hp;exact⟨dK.defers,fin dK hq⟩
 | ret=>obtain⟨ρ',dK,hq,_⟩:=hp;exact⟨dK.defers,fin dK hq⟩
 | panic c=>obtain⟨h1,ρ',h2,_⟩:=hp;exact⟨h2.defers,.inr ⟨c,rfl,h1⟩⟩
 | exit i=>obtain⟨ρ',dK,hq,_⟩:=hp;exact hq.elim
 | goto i=>obtain⟨ρ',dK,hq,_⟩:=hp;exact hq.elim
 | outgrown=>exact hp.elim
abbrev cB:PX:=fun _ _=>False
theorem Qt{f:FuncId}{fn:Func}{c:Code}{ann:sV}{args:List Value}{tys:List Ty}{K:jC tys}{w:Wd}(hf:P.funcs[f]? = some fn)(hb:fn.body=some c)
  (hc:vD P fn.ntmps ann c=true) (ha:Nat.ble args.length fn.ntmps=true) (h:uj P pk cB ann c (IF P tys fn.results.toList K) (mC args) w):ar P f args.toArray tys K w:=
 Calls.mono (Ok hf hb hc ha h) fun _ _ h=>h.elim id fun⟨_,_,hc⟩=>hc.elim
theorem mkS{f:FuncId}{fn:Func}{ann:sV}{args:List Value}{tys:List Ty}{K:jC tys}{w:Wd}{F C:Prop}(hf:P.funcs[f]? = some fn)
  (hF:F=uj P pk cB ann (fn.body.getD .skip) (IF P tys fn.results.toList K) (mC args) w) (hc:(fn.body.isSome && Nat.ble args.length fn.ntmps && vD P fn.ntmps ann (fn.body.getD .skip))=true)
  (hC:ar P f args.toArray tys K w=C) (h:F):C:=by
 simp only[Bool.and_eq_true]at hc;obtain⟨c,hb⟩:=Option.isSome_iff_exists.1 hc.1.1;have e:fn.body.getD .skip=c:=by rw[hb];rfl
 rw[e]at hF hc;rw[<- hC];exact Qt hf hb hc.2 hc.1.2 (hF ▸ h)
theorem mkV{rd:Bool}{fv:Value}{args:List Value}{f:FuncId}{ars:Array Value}{tys:List Ty}{K:jC tys}{w:Wd}{C:Prop}(hr:(Iy fv args).run P w = .ok (.enter f ars) w)(hC:C=ar P f ars tys K w)(h:C):aG P rd fv args tys K X w:=by
 unfold aG Iw;rw[hr];subst hC;exact Calls.mono h fun _ _ h=> .inl h
theorem mkI{recv:Value}{m:String}{args:List Value}{f:FuncId}{ars:Array Value}{tys:List Ty}{K:jC tys}{w:Wd}{C:Prop}(hr:(invoke (.fn (.method m) #[]) (#[recv]++args.toArray)).run P w = .ok (.enter f ars) w)(hC:C=ar P f ars tys K w)(h:C) :
  Gk P recv m args tys K X w:=by
 unfold Gk Iw;rw[hr];subst hC;exact Calls.mono h fun _ _ h=> .inl h
end sound
end Go.V
set_option maxRecDepth 100000
namespace Go.V
def acN:Code->Code
 | .seq a _=>a
 | c=>c
def acO:Code->Code
 | .seq _ b=>b
 | c=>c
def Xa:Code->Array Oper
 | .region _ ops _=>ops
 | _=>#[]
inductive Dp where
 | last (a:sV)
 | next (a:sV) (s:Dp)
 | Tx (s:Dp)
def dfO(o:Oper)(ρ:Env):Option Deferred:=match o.guard,o.dst,o.op with
 | none,none,.defer c=>match c.callee with
  | .value f=>match ev ρ f with
   | .func fn first cap=>some { target:= .fn fn cap,args:=first++c.args.map (ev ρ) }
   | _=>none
  | _=>none
 | _,_,_=>none
def dfK(d:Option Deferred)(K:Deferred->Prop):Prop:=match d with
 | some d=>K d
 | none=>False
def Tz(P:Program)(pk:Nat)(X:PX)(ops:Array Oper):Nat->List Oper->Env->(Env->Deferred->Pw)->Pw
 | _,[],_,_,_=>False
 | _,[o],ρ,K,w=>dfK (dfO o ρ) fun d=>K ρ d w
 | i,o::r,ρ,K,w=>gW ops o ρ (S1 P pk X false o ρ (fun v w'=>mF (S3 ops i) v fun v=>Tz P pk X ops (i+1) r (di ρ o.dst v) K w') w) (Tz P pk X ops (i+1) r (di ρ o.dst undef) K w)
def aat(fin:List Deferred->Env->Pw)(D:List Deferred):Exit->Env->Pw
 | .ret,ρ,w=>fin D ρ w
 | .normal,ρ,w=>fin D ρ w
 | _,_,_=>False
def Qu(P:Program)(pk:Nat):Dp->Code->List Deferred->(List Deferred->Env->Pw)->Env->Pw
 | .last a,c,D,fin,ρ,w=>uj P pk cB a c (aat fin D) ρ w
 | .next a s,.seq x y,D,fin,ρ,w=>uj P pk cB a x (ui (fun ρ w=>Qu P pk s y D fin ρ w) (aat fin D)) ρ w
 | .Tx s,.seq (.region _ ops false) y,D,fin,ρ,w=>Tz P pk cB ops 0 ops.toList ρ (fun ρ d w=>Qu P pk s y (d::D) fin ρ w) w
 | _,_,_,_,_,_=>False
def Ol(P:Program)(n:Nat):Dp->Code->Bool
 | .last a,c=>vD P n a c
 | .next a s,.seq x y=>vD P n a x && Ol P n s y
 | .Tx s,.seq (.region _ ops false) y=>(ops.toList.all fun o=>qk n o.dst) && Ol P n s y
 | _,_=>false
def oG(P:Program)(f:FuncId)(args:Array Value)(K:Pw)(w:Wd):Prop:=(∃fn,P.funcs[f]? = some fn/\lW fn=true)/\CallsD P f args .returning w (fun e u w'=>(∃v,e = .returned v)/\u = .returning/\K w')
def Al(P:Program):List Deferred->(Pw)->Pw
 | [],K,w=>K w
 | { target:= .fn (.func f) cap,args:=args }::ds,K,w=>oG P f (args++cap) (Al P ds K) w
 | _::_,_,_=>False
section sound
variable {P:Program} {n pk:Nat}
theorem iM.push{a:Act}{ρ:Env}{D:List Deferred}(h:iM D n a ρ)(d:Deferred):iM (d::D) n (Act.put { a with defers:=d::a.defers } none undef) ρ:=⟨by show d::a.defers=_;rw[h.defers],h.size,h.get⟩
theorem Om{o:Oper}{ρ:Env}{a:Act}{D:List Deferred}{d:Deferred}{w:Wd}(hr:iM D n a ρ)(h:dfO o ρ=some d):o.guard=none/\o.dst=none/\(execOp a.eval o).run P w = .ok (.defer d) w:=by
 unfold dfO at h;split at h
 .rename_i c h1 h2 h3;split at h
  .rename_i f hf;split at h
   .rename_i fn first cap hv
    injection h with h;subst h
    refine⟨h1,h2,?_⟩;have e:a.eval=ev ρ:=hr.eval;rw[e];simp only[execOp,h3,resolve,hf,hv,Deferred.ofValue,pure_bind,Sem.run_pure]
   .cases h
  .cases h
 .cases h
theorem FH{ops:Array Oper}{D:List Deferred}{K:Env->Deferred->Pw}{Q:Exit->Act->Pw}(hq:∀ρ d w a,K ρ d w->iM (d::D) n a ρ->Q .normal a w):∀(l pre:List Oper)(ρ:Env)(w:Wd)(a:Act),ops.toList=pre++l->
  (∀o∈l,qk n o.dst=true)->Tz P pk cB ops pre.length l ρ K w->iM D n a ρ->wpOps P ops Q (List.range' pre.length l.length) a w
 | [],_,_,_,_,_,_,h,_=>h.elim
 | [o],pre,ρ,w,a,he,hd,h,hr=>by
  have hi:ops[pre.length]? = some o:=by rw[<- Array.getElem?_toList,he];simp
  simp only[Tz]at h
  cases hdo:dfO o ρ with
  | none=>rw[hdo]at h;exact h.elim
  | some d=>
   rw[hdo]at h
   obtain⟨h1,h2,h3⟩:=Om (P:=P) (w:=w) hr hdo
   simp only[List.length_cons,List.length_nil,List.range'_succ,List.range'_zero,wpOps,hi];have hw:Region.wanted o (yielded ops a.tmps)=true:=by simp[Region.wanted,h1]
   rw[if_pos hw];left;simp only[Oper.wp,Oper.upon,h3,h2];exact hq ρ d w _ h (hr.push d)
 | o::o2::l,pre,ρ,w,a,he,hd,h,hr=>by
  have hi:ops[pre.length]? = some o:=by rw[<- Array.getElem?_toList,he];simp
  have next:∀v w',Tz P pk cB ops (pre.length+1) (o2::l) (di ρ o.dst v) K w'->wpOps P ops Q (List.range' (pre.length+1) (o2::l).length) (a.put o.dst v) w':=fun v w' h'=>by
   have:=FH (ops:=ops) hq (o2::l) (pre++[o]) (di ρ o.dst v) w' (a.put o.dst v) (by simp[he]) (fun x hx=>hd x (by simp at hx ⊢;exact .inr hx)) (by simpa using h') (hr.di (hd o (by simp)) v);simpa using this
  simp only[Tz]at h;rw[List.length_cons,List.range'_succ];simp only[wpOps,hi,hr.wanted];rcases nJ h with⟨hw,hA⟩ | ⟨hw,hB⟩
  .rw[if_pos hw];refine .inl (CB (X:=cB) (K:=fun v w'=>mF (S3 ops pre.length) v fun v=>Tz P pk cB ops (pre.length+1) (o2::l) (di ρ o.dst v) K w') ?_ (fun v w' h'=>next v w' (gY (K:=fun v=>Tz P pk cB ops (pre.length+1) (o2::l) (di ρ o.dst v) K w') h')) (fun c w' h=>h.elim));rw[hr.eval];exact kW hA
  .rw[if_neg (by simp[hw])];exact next _ _ hB
def DpE(n:Nat)(fin:List Deferred->Env->Pw):Exit->Act->Pw
 | .normal,a,w=>∃D ρ,iM D n a ρ/\fin D ρ w
 | .ret,a,w=>∃D ρ,iM D n a ρ/\fin D ρ w
 | _,_,_=>False
theorem Qv{fin:List Deferred->Env->Pw}:∀(s:Dp)(c:Code)(D:List Deferred)(ρ:Env)(w:Wd)(a:Act),Ol P n s c=true->Qu P pk s c D fin ρ w->iM D n a ρ->c.wp P (DpE n fin) a w:=by
 intro s
 induction s with
 | last ann=>
  intro c D ρ w a Bo h hr;refine wp_mono (wpIn_wide.1 (fZ (ro:=none) (n:=n) (D:=D) ann c _ ρ w a (.inl rfl) Bo h hr)) fun e a' w' hp=>?_
  cases e with
  | normal=>obtain⟨ρ',r',q',_⟩:=hp;exact⟨D,ρ',r',q'⟩
  | ret=>obtain⟨ρ',r',q',_⟩:=hp;exact⟨D,ρ',r',q'⟩
  | panic c=>exact hp.1.elim
  | outgrown=>exact hp.elim
  | exit i=>obtain⟨_,_,q',_⟩:=hp;exact q'.elim
  | goto i=>obtain⟨_,_,q',_⟩:=hp;exact q'.elim
 | next ann s ih=>
  intro c D ρ w a Bo h hr
  cases c <;> simp only[Qu]at h
  rename_i c1 c2;simp only[Ol,Bool.and_eq_true]at Bo;refine wp_seq (wp_mono (wpIn_wide.1 (fZ (ro:=none) (n:=n) (D:=D) ann c1 _ ρ w a (.inl rfl) Bo.1 h hr)) fun e a' w' hp=>?_)
  cases e with
  | normal=>obtain⟨ρ',r',q',_⟩:=hp;exact ih c2 D ρ' w' a' Bo.2 q' r'
  | ret=>obtain⟨ρ',r',q',_⟩:=hp;exact⟨D,ρ',r',q'⟩
  | panic c=>exact hp.1.elim
  | outgrown=>exact hp.elim
  | exit i=>obtain⟨_,_,q',_⟩:=hp;exact q'.elim
  | goto i=>obtain⟨_,_,q',_⟩:=hp;exact q'.elim
 | Tx s ih=>
  intro c D ρ w a Bo h hr
  cases c <;> try exact h.elim
  rename_i c1 c2
  cases c1 <;> try exact h.elim
  rename_i id ops d
  cases d with
  | true=>exact h.elim
  | false=>
  simp only[Ol,Bool.and_eq_true,List.all_eq_true]at Bo;refine wp_seq (wp_region ?_);have:=FH (pk:=pk) (n:=n) (ops:=ops) (D:=D) (Q:=Exit.then (c2.wp P (DpE n fin)) (DpE n fin)) (fun ρ d w a hk dK=>ih c2 (d::D) ρ w a Bo.2 hk dK) ops.toList [] ρ w a rfl Bo.1 h hr;simpa[List.range_eq_range'] using this
theorem yn{fn:Func}{tmps:Array Value}{R:Ending->Pw}:∀(D:List Deferred)(w:Wd),Al P D (fun w=>∃v,(results fn tmps).run P w = .ok v w/\R (.returned v) w) w->Leaves P fn tmps R D .returning w
 | [],_,h=>h
 | { target:= .fn (.func f) cap,args:=args }::ds,w,h=>by
  obtain⟨⟨fn,hf,hc⟩,h⟩:=h;refine leaves_cons (by simp) (f:=f) (args:=args++cap) (yi hf hc) (CallsD.mono h ?_);rintro _ _ w' ⟨⟨v,rfl⟩,rfl,h'⟩;exact yn ds w' h'
 | { target:= .fn (.method _) _,args:=_ }::_,_,h=>h.elim
 | { target:= .nil,args:=_ }::_,_,h=>h.elim
theorem oG.mono{f:FuncId}{args:Array Value}{K K':Pw}{w:Wd}(h:oG P f args K w)(hk:∀w,K w->K' w):oG P f args K' w:=
 ⟨h.1,CallsD.mono h.2 fun _ _ w' h=>⟨h.1,h.2.1,hk w' h.2.2⟩⟩
theorem Bp{K K':Pw}(hk:∀w,K w->K' w):∀(D:List Deferred)(w:Wd),Al P D K w->Al P D K' w
 | [],w,h=>hk w h
 | { target:= .fn (.func _) _,args:=_ }::ds,_,h=>oG.mono h fun w' h'=>Bp hk ds w' h'
 | { target:= .fn (.method _) _,args:=_ }::_,_,h=>h.elim
 | { target:= .nil,args:=_ }::_,_,h=>h.elim
theorem mkD{f:FuncId}{fn:Func}{s:Dp}{args:List Value}{tys:List Ty}{K:jC tys}{w:Wd}{F C:Prop}(hf:P.funcs[f]? = some fn)
  (hF:F=Qu P pk s (fn.body.getD .skip) [] (fun D ρ w=>Al P D (fun w=>vE P fn.results.toList ρ w (fun vs=>pI tys vs K w)) w) (mC args) w) (hc:(fn.body.isSome && Nat.ble args.length fn.ntmps && Ol P fn.ntmps s (fn.body.getD .skip))=true)
  (hC:ar P f args.toArray tys K w=C) (h:F):C:=by
 simp only[Bool.and_eq_true]at hc;obtain⟨c,hb⟩:=Option.isSome_iff_exists.1 hc.1.1;have e:fn.body.getD .skip=c:=by rw[hb];rfl
 rw[e]at hF hc;rw[<- hC]
 have fin:∀{D:List Deferred}{ρ:Env}{a:Act}{w':Wd},iM D fn.ntmps a ρ->Al P D (fun w=>vE P fn.results.toList ρ w (fun vs=>pI tys vs K w)) w'->Leaves P fn a.tmps (fun e w'=>Gc tys K (fun vs X=>e = .returned (iB vs)/\X w')) a.defers .returning w':=fun {D ρ a w'} hr hl=>by
  rw[hr.defers];refine yn D w' (Bp (fun w2 h2=>?_) D w' hl);obtain⟨vs,h3,h4⟩:=lX hr h2;exact⟨_,h3,jD tys K (fun us X hh=>⟨by rw[hh.1],hh.2⟩) (nA tys vs K w2 h4)⟩
 refine calls_of_wp_defers hf hb (wp_mono (Qv s c [] _ w _ hc.2 (hF ▸ h) (uk hc.1.2)) fun e a' w' hp=>?_)
 cases e with
 | normal=>obtain⟨D,ρ,r,q⟩:=hp;exact fin r q
 | ret=>obtain⟨D,ρ,r,q⟩:=hp;exact fin r q
 | panic c=>exact hp.elim
 | outgrown=>exact hp.elim
 | exit i=>exact hp.elim
 | goto i=>exact hp.elim
theorem mkE{f:FuncId}{fn:Func}{ann:sV}{args:List Value}{K:Pw}{w:Wd}{F:Prop}(hf:P.funcs[f]? = some fn)
  (hF:F=uj P pk cB ann (fn.body.getD .skip) (IF P [] fn.results.toList K) (mC args) w) (hc:(lW fn && Nat.ble args.length fn.ntmps && vD P fn.ntmps ann (fn.body.getD .skip))=true) (h:F):oG P f args.toArray K w:=by
 simp only[Bool.and_eq_true]at hc;refine⟨⟨fn,hf,hc.1.1⟩,?_⟩;obtain⟨c,hb⟩:=Option.isSome_iff_exists.1 (by have:=hc.1.1;simp only[lW,Bool.and_eq_true]at this;exact this.1);have e:fn.body.getD .skip=c:=by rw[hb];rfl
 rw[e]at hF hc
 refine CallsD.mono (callsD_of_wp (R:=fun e w'=>(∃v,e = .returned v)/\K w') hf hb (wp_mono (wpIn_wide.1 (fZ (ro:=none) (n:=fn.ntmps) (D:=[]) ann c _ _ w _ (.inl rfl) hc.2 (hF ▸ h) (uk hc.1.2))) fun e a' w' hp=>?_)) fun e u w' h=>⟨h.2.1,h.1,h.2.2⟩
 have fin:∀{ρ':Env},iM [] fn.ntmps a' ρ'->vE P fn.results.toList ρ' w' (fun vs=>pI [] vs K w')->∃v,(results fn a'.tmps).run P w' = .ok v w'/\(∃v',Ending.returned v = .returned v')/\K w':=fun dK hq=>by
  obtain⟨vs,h1,h2⟩:=lX dK hq;refine⟨_,h1,⟨_,rfl⟩,?_⟩
  cases vs with
  | nil=>exact h2
  | cons=>exact h2.elim
 cases e with
 | normal=>obtain⟨ρ',r',q',_⟩:=hp;exact⟨r'.defers,fin r' q'⟩
 | ret=>obtain⟨ρ',r',q',_⟩:=hp;exact⟨r'.defers,fin r' q'⟩
 | panic c=>exact hp.1.elim
 | outgrown=>exact hp.elim
 | exit i=>obtain⟨_,_,q',_⟩:=hp;exact q'.elim
 | goto i=>obtain⟨_,_,q',_⟩:=hp;exact q'.elim
theorem mkN{f:FuncId}{fn:Func}{id:Nat}{ops:Array Oper}{rest:Code}{t:Nat}{ann:sV}{args:List Value}{K:Pw}{w:Wd}{F:Prop}(hf:P.funcs[f]? = some fn)(hb:fn.body=some (.seq (.region id ops false) rest))(hz:ops.size=1)
  (acP:∀(Q:Exit->Act->List Frame->Pw)(a:Act)(cs:List Frame)(w:Wd),wpOpsS P ops Q [0] a cs w=(match recoverD cs with
   | some (v,cs')=>Q .normal (a.put (some t) v) cs' w
   | none=>Q .normal (a.put (some t) .nilIface) cs w))
  (hF:F=uj P pk cB ann rest (IF P [] fn.results.toList K) (put (mC args) t .nilIface) w) (ht:t < fn.ntmps) (hc:(lW fn && (Nat.ble args.length fn.ntmps && vD P fn.ntmps ann rest))=true) (h:F):oG P f args.toArray K w:=by
 simp only[Bool.and_eq_true]at hc;obtain⟨acQ,hc⟩:=hc;refine⟨⟨fn,hf,acQ⟩,?_⟩;refine callsD_of_wpS hf hb fun c₀ cs hu=>wpS_seq (wpS_region ?_)
 have hr:recoverD (c₀::cs)=none:=by simp[recoverD,hu]
 rw[hz,show List.range 1=[0] from rfl,acP,hr];have rep:iM [] fn.ntmps (Act.put { tmps:=args.toArray++Array.replicate (fn.ntmps - args.toArray.size) undef,defers:=[] } (some t) .nilIface) (put (mC args) t .nilIface):=(uk hc.1).put ht _;refine wpS_of_wp (wp_mono (wpIn_wide.1 (fZ (ro:=none) (n:=fn.ntmps) (D:=[]) ann rest _ _ w _ (.inl rfl) hc.2 (hF ▸ h) rep)) fun e a' w' hp=>?_)
 have fin:∀{ρ':Env},iM [] fn.ntmps a' ρ'->vE P fn.results.toList ρ' w' (fun vs=>pI [] vs K w')->∃v,(results fn a'.tmps).run P w' = .ok v w'/\K w':=fun dK hq=>by
  obtain⟨vs,h1,h2⟩:=lX dK hq;refine⟨_,h1,?_⟩
  cases vs with
  | nil=>exact h2
  | cons=>exact h2.elim
 cases e with
 | normal=>obtain⟨ρ',r',q',_⟩:=hp;obtain⟨v,h1,h2⟩:=fin r' q';exact⟨r'.defers,.returning,by rw[<- hu],v,h1,⟨_,rfl⟩,rfl,h2⟩
 | ret=>obtain⟨ρ',r',q',_⟩:=hp;obtain⟨v,h1,h2⟩:=fin r' q';exact⟨r'.defers,.returning,by rw[<- hu],v,h1,⟨_,rfl⟩,rfl,h2⟩
 | panic c=>exact hp.1.elim
 | outgrown=>exact hp.elim
 | exit i=>obtain⟨_,_,q',_⟩:=hp;exact q'.elim
 | goto i=>obtain⟨_,_,q',_⟩:=hp;exact q'.elim
end sound
end Go.V
