/- Texts for LWitnessNone, part 6. -/
import Derived.OrdersIn
import Derived.Scope
import Derived.Recover
import Derived.ControlIn
import Derived.Test.YtmbckodpbdlblaaGreatQw5
namespace Go.V
section sound
variable {P:Program} {n:Nat} {D:List Deferred} {pk:Nat} {X:PX}
def FrM(M:Nat->Bool)(ρ ρ':Env):Prop:=∀ mask,M mask=true->∀ t,Nat.testBit mask t=false->ρ' t=ρ t
theorem FrM.refl(M:Nat->Bool)(ρ:Env):FrM M ρ ρ:=fun _ _ _ _=>rfl
theorem FrM.trans{M:Nat->Bool}{a b c:Env}(h:FrM M a b)(k:FrM M b c):FrM M a c:=fun m hm t ht=>(k m hm t ht).trans (h m hm t ht)
theorem FrM.mono{M M':Nat->Bool}{a b:Env}(h:FrM M a b)(hm:∀ m,M' m=true->M m=true):FrM M' a b:=fun m hm' t ht=>h m (hm m hm') t ht
theorem FrM.putO{M:Nat->Bool}{ρ:Env}{d:Option Nat}(h:∀ m,M m=true->maskO m d=true)(v:Value):FrM M ρ (putO ρ d v):=by
 intro m hm t ht
 cases d with
 | none=>rfl
 | some d =>
  have:=h m hm
  simp only [maskO] at this
  refine put_ne _ _ fun e=>?_
  subst e; rw [ht] at this; cases this
def wantedE(ops:Array Oper)(o:Oper)(ρ:Env):Bool :=
 Region.wanted o (fun j=>match (ops[j]?).bind (·.dst) with
  | some d=>match ρ d with
   | .bool b=>some b
   | _=>none
  | none=>none)
theorem Rep.wanted{a:Act}{ρ:Env}(h:Rep D n a ρ)(ops:Array Oper)(o:Oper):Region.wanted o (yielded ops a.tmps)=wantedE ops o ρ:=by
 unfold wantedE
 congr 1
 funext j
 unfold yielded
 cases hd:(ops[j]?).bind (·.dst) with
 | none=>rfl
 | some d =>
  simp only [Option.bind_some]
  have hg:=h.get d
  rcases Nat.lt_or_ge d a.tmps.size with hlt | hge
  .have:a.tmps[d]? = some (ρ d):=by
    rw [<- hg]; simp [hlt]
   rw [this]
   cases ρ d <;> rfl
  .have e1:a.tmps[d]? = none:=by simp [hge]
   have e2:ρ d=undef:=by rw [<- hg]; simp [e1]
   rw [e1,e2]; rfl
theorem gW_sound{ops:Array Oper}{o:Oper}{ρ:Env}{A B:Prop}(h:gW ops o ρ A B):(wantedE ops o ρ=true/\A)∨(wantedE ops o ρ=false/\B):=by
 unfold gW at h
 unfold wantedE Region.wanted
 cases hg:o.guard with
 | none=>rw [hg] at h; exact .inl ⟨rfl,h⟩
 | some gw =>
  obtain ⟨j,want⟩:=gw
  simp only [hg] at h ⊢
  cases hd:(ops[j]?).bind (·.dst) with
  | none=>rw [hd] at h; exact .inr ⟨rfl,h⟩
  | some d =>
   simp only [hd] at h ⊢
   split at h
   .rename_i b hb
    simp only [hb]
    cases want <;> cases b <;> simp only [cond_true,cond_false] at h
    .exact .inl ⟨rfl,h⟩
    .exact .inr ⟨rfl,h⟩
    .exact .inr ⟨rfl,h⟩
    .exact .inl ⟨rfl,h⟩
   .rename_i hne
    refine .inr ⟨?_,h⟩
    cases hv:ρ d <;> first | rfl | exact absurd hv (hne _)
theorem splitW_sound{g:Bool}{v:Value}{K:Value->Prop}(h:splitW g v K):K v:=by
 unfold splitW at h
 cases g with
 | false=>exact h
 | true =>
  simp only [cond_true] at h
  split at h
  .rename_i b
   cases b
   .exact h.out.2 rfl
   .exact h.out.1 rfl
  .exact h
def PostE(D:List Deferred)(n:Nat)(Q:Exit->Env->Wd->Prop)(X:PX)(M:Nat->Bool)(ρ0:Env):Exit->Act->Wd->Prop
 | .panic c,a,w=>X c w/\∃ ρ',Rep D n a ρ'/\FrM M ρ0 ρ'
 | .normal,a,w=>∃ ρ',Rep D n a ρ'/\Q .normal ρ' w/\FrM M ρ0 ρ'
 | .exit i,a,w=>∃ ρ',Rep D n a ρ'/\Q (.exit i) ρ' w/\FrM M ρ0 ρ'
 | .goto i,a,w=>∃ ρ',Rep D n a ρ'/\Q (.goto i) ρ' w/\FrM M ρ0 ρ'
 | .ret,a,w=>∃ ρ',Rep D n a ρ'/\Q .ret ρ' w/\FrM M ρ0 ρ'
 | .outgrown,_,_=>False
theorem PostE.mono{Q:Exit->Env->Wd->Prop}{M M':Nat->Bool}{ρ0:Env}{e:Exit}{a:Act}{w:Wd}(h:PostE D n Q X M ρ0 e a w)(hm:∀ m,M' m=true->M m=true):PostE D n Q X M' ρ0 e a w:=by
 cases e with
 | panic c=>obtain ⟨h1,ρ',h2,h3⟩:=h; exact ⟨h1,ρ',h2,h3.mono hm⟩
 | outgrown=>exact h
 | _=>obtain ⟨ρ',h1,h2,h3⟩:=h; exact ⟨ρ',h1,h2,h3.mono hm⟩
theorem PostE.from{Q:Exit->Env->Wd->Prop}{M:Nat->Bool}{ρ0 ρ1:Env}{e:Exit}{a:Act}{w:Wd}(h:PostE D n Q X M ρ1 e a w)(hf:FrM M ρ0 ρ1):PostE D n Q X M ρ0 e a w:=by
 cases e with
 | panic c=>obtain ⟨h1,ρ',h2,h3⟩:=h; exact ⟨h1,ρ',h2,hf.trans h3⟩
 | outgrown=>exact h
 | _=>obtain ⟨ρ',h1,h2,h3⟩:=h; exact ⟨ρ',h1,h2,hf.trans h3⟩
theorem Rep.unput{M:Nat->Bool}{ρ0 ρ':Env}{a:Act}{d:Option Nat}{v:Value}(h:Rep D n (a.put d v) ρ')(f:FrM M ρ0 ρ')(hm:∀ m,M m=true->maskO m d=true):∃ ρ',Rep D n a ρ'/\FrM M ρ0 ρ':=by
 cases d with
 | none=>exact ⟨ρ',h,f⟩
 | some d =>
  refine ⟨fun t=>a.tmps.getD t undef,⟨h.defers,by have:=h.size; simpa [Act.put] using this,fun _=>rfl⟩,fun m hM t ht=>?_⟩
  have hd:=hm m hM
  have hne:t≠d:=by rintro rfl; simp only [maskO] at hd; rw [hd] at ht; cases ht
  have h1:=h.get t
  rw [<- f m hM t ht,<- h1]
  simp [Act.put,Array.getElem?_setIfInBounds_ne (Ne.symm hne)]
theorem opok_wp{o:Oper}{a:Act}{w:Wd}{K:Value->Wd->Prop}{next:Act->Wd->Prop}{Q:Exit->Act->Wd->Prop}(h:OpOk P X false o a.eval K w)
  (hk:∀ v w',K v w'->next (a.put o.dst v) w') (hx:∀ c w',X c w'->Q (.panic c) a w'):o.wp P a w next Q:=by
 unfold OpOk at h
 unfold Oper.wp
 generalize (execOp a.eval o).run P w=r at h
 split at h
 .exact hk _ _ h
 .exact hk _ _ h
 .refine Calls.mono h fun e w'' he=>?_
  rcases he with ⟨v,rfl,hv⟩ | ⟨c,rfl,hc⟩
  .exact hk _ _ hv
  .exact hx _ _ hc
 .cases h.1
 .exact hx _ _ h
 .exact h.elim
def wideR(ro:Option Nat):Fence:={ Fence.wide with round:=ro }
theorem opok_wpIn{ro:Option Nat}{o:Oper}{a:Act}{w:Wd}{K:Value->Wd->Prop}{next:Act->Wd->Prop}{Q:Exit->Act->Wd->Prop}(hnd:∀ c,o.op ≠ .defer c)(h:OpOk P X true o a.eval K w)
  (hk:∀ v w',K v w'->next (a.put o.dst v) w') (hx:∀ c w',X c w'->Q (.panic c) a w'):o.wpIn (wideR ro) 0 P a w next Q:=by
 unfold OpOk at h
 refine ⟨fun f _=>trivial,?_⟩
 rw [Oper.semAt_eq _ _ _ hnd]
 generalize (execOp a.eval o).run P w=r at h
 have dp:(wideR ro).depth.isSome=true->1<=0:=fun h=>by cases h
 split at h
 .exact hk _ _ h
 .exact hk _ _ h
 .refine ⟨dp,?_⟩
  have h':=(callsIn_wide (n:=0)).2 h
  refine CallsIn.mono (F:=wideR ro) h' fun e w'' he=>?_
  rcases he with ⟨v,rfl,hv⟩ | ⟨c,rfl,hc⟩
  .exact hk _ _ hv
  .exact hx _ _ hc
 .refine ⟨dp,RoundIn.mono (F:=wideR ro) h.2 fun e w'' he=>?_⟩
  rcases he with ⟨v,rfl,hv⟩ | ⟨c,rfl,hc⟩
  .exact hk _ _ hv
  .exact hx _ _ hc
 .exact hx _ _ h
 .exact h.elim
theorem opW_nodefer{rd:Bool}{o:Oper}{ρ:Env}{K:Value->Wd->Prop}{w:Wd}(h:opW P pk X rd o ρ K w):∀ c,o.op ≠ .defer c:=fun c he=>by
 unfold opW at h; rw [he] at h
 simp only [opP,he] at h
theorem opE_nodefer{ops:Array Oper}{o:Oper}{ρ:Env}{K:Value->Wd->Prop}{w:Wd}(h:opE P pk X ops o ρ K w):∀ c,o.op ≠ .defer c:=fun c he=>by
 unfold opE at h
 simp only [he] at h
 exact opW_nodefer h c he
theorem opE_sound{ops:Array Oper}{o:Oper}{ρ:Env}{K:Value->Wd->Prop}{w:Wd}(h:opE P pk X ops o ρ K w):OpOk P X true o (ev ρ) K w:=by
 unfold opE at h
 split at h
 .rename_i it he
  split at h
  .exact .of_semT (by unfold execOp; rw [he]) h
  .exact opW_sound h
 .exact opW_sound h
theorem seqW_sound{ro:Option Nat}{ops:Array Oper}{M:Nat->Bool}{Q:Exit->Env->Wd->Prop}{ρ0:Env}:∀(l pre:List Oper)(ρ:Env)(w:Wd)(a:Act),ops.toList=pre++l ->
  (∀ o∈l,dstOk n o.dst=true)->(∀ o∈l,∀ m,M m=true->maskO m o.dst=true)->seqW P pk X ops pre.length l ρ (Q .normal) w->Rep D n a ρ->FrM M ρ0 ρ ->
  wpOpsIn (wideR ro) 0 P ops (PostE D n Q X M ρ0) (List.range' pre.length l.length) a w
 | [],pre,ρ,w,a,_,_,_,h,hr,hf=>⟨ρ,hr,h,hf⟩
 | o::l,pre,ρ,w,a,he,hd,hm,h,hr,hf=>by
  have hi:ops[pre.length]? = some o:=by rw [<- Array.getElem?_toList,he]; simp
  have next:∀ v w',seqW P pk X ops (pre.length+1) l (putO ρ o.dst v) (Q .normal) w'->wpOpsIn (wideR ro) 0 P ops (PostE D n Q X M ρ0) (List.range' (pre.length+1) l.length) (a.put o.dst v) w':=fun v w' h'=>by
   have:=seqW_sound (ro:=ro) (ops:=ops) l (pre++[o]) (putO ρ o.dst v) w' (a.put o.dst v) (by simp [he]) (fun x hx=>hd x (by simp [hx])) (fun x hx=>hm x (by simp [hx])) (by simpa using h') (hr.putO (hd o (by simp)) v) (hf.trans (.putO (hm o (by simp)) v))
   simpa using this
  simp only [List.length_cons,List.range'_succ,wpOpsIn,hi,hr.wanted]
  rcases gW_sound h with ⟨hw,hA⟩ | ⟨hw,hB⟩
  .rw [if_pos hw]
   refine opok_wpIn (X:=X) (K:=fun v w'=>splitW (isG ops pre.length) v fun v=>seqW P pk X ops (pre.length+1) l (putO ρ o.dst v) (Q .normal) w') (opE_nodefer hA) ?_ (fun v w' h'=>next v w' (splitW_sound (K:=fun v=>seqW P pk X ops (pre.length+1) l (putO ρ o.dst v) (Q .normal) w') h')) (fun c w' hx=>⟨hx,_,hr,hf⟩)
   rw [hr.eval]; exact opE_sound hA
  .rw [if_neg (by simp [hw])]
   exact ⟨fun _ _=>trivial,next _ _ hB⟩
theorem actW_sound{ops:Array Oper}{M:Nat->Bool}{ρ0:Env}{S:Wd->Prop}{i:Nat}{next:Env->Wd->Prop}{ρ:Env}{w:Wd}{a:Act}{K':Act->Wd->Prop}{Q:Exit->Act->Wd->Prop}
  (hd:∀ o∈ops.toList,dstOk n o.dst=true) (hm:∀ o∈ops.toList,∀ m,M m=true->maskO m o.dst=true) (h:actW P pk X ops S i next ρ w) (hS:S w) (hr:Rep D n a ρ) (hf:FrM M ρ0 ρ) (hx:∀ c w',X c w'->Q (.panic c) a w')
  (hk:∀ ρ' a' w',S w'->next ρ' w'->Rep D n a' ρ'->FrM M ρ0 ρ'->K' a' w'):wpOp P ops Q i (fun a' w'=>(S w'∨lastB ops i=true)/\K' a' w') a w:=by
 unfold actW at h
 split at h
 .rename_i o ho
  have hmem:o∈ops.toList:=by
   have:o∈ops:=Array.mem_of_getElem? ho
   simpa using this
  unfold wpOp
  simp only [ho,hr.wanted]
  rcases gW_sound h with ⟨hw,hA⟩ | ⟨hw,hB⟩
  .rw [if_pos hw]
   refine .inl (opok_wp (X:=X) (K:=fun v w'=>S w'/\splitW (isG ops i) v fun v=>next (putO ρ o.dst v) w') ?_ (fun v w' h'=>⟨.inl h'.1,hk _ _ _ h'.1 (splitW_sound (K:=fun v=>next (putO ρ o.dst v) w') h'.2) (hr.putO (hd o hmem) v) (hf.trans (.putO (hm o hmem) v))⟩) hx)
   rw [hr.eval]; exact opW_sound hA
  .rw [if_neg (by simp [hw])]
   exact ⟨.inl hS,hk _ _ _ hS hB (hr.putO (hd o hmem) undef) (hf.trans (.putO (hm o hmem) undef))⟩
 .exact h.elim
theorem planW_sound{ops:Array Oper}{M:Nat->Bool}{Q:Exit->Env->Wd->Prop}{ρ0:Env}{S:Wd->Prop}(hd:∀ o∈ops.toList,dstOk n o.dst=true)
  (hm:∀ o∈ops.toList,∀ m,M m=true->maskO m o.dst=true) (hns:Region.noSelect ops=true):∀(p:Plan)(f:Nat)(li:Array Bool)(ρ:Env)(w:Wd)(a:Act),
  planOk ops p f li=true->planW P pk X ops S p ρ (Q .normal) w->S w->Closed ops li->Rep D n a ρ->FrM M ρ0 ρ ->
  wpAnyL P ops (PostE D n Q X M ρ0) S f li a w:=by
 intro p
 induction p with
 | fin =>
  intro f li ρ w a hp h hS hcl hr hf
  simp only [planOk,List.isEmpty_iff] at hp
  exact wpAnyL_done hp ⟨ρ,hr,h,hf⟩ f
 | last i =>
  intro f li ρ w a hp h hS hcl hr hf
  cases f with
  | zero=>simp [planOk] at hp
  | succ f =>
   simp only [planOk,Bool.and_eq_true,beq_iff_eq,List.isEmpty_iff] at hp
   refine wpAnyL_all hp.1.1 (by simp) fun j hj=>?_
   simp only [List.mem_singleton] at hj
   subst hj
   simp only [planW] at h
   split at h
   .rename_i o ho
    have hmem:o∈ops.toList:=by
     have:o∈ops:=Array.mem_of_getElem? ho
     simpa using this
    unfold wpOp
    simp only [ho,hr.wanted]
    rcases gW_sound h with ⟨hw,hA⟩ | ⟨hw,hB⟩
    .rw [if_pos hw]
     refine .inl (opok_wp (X:=X) (K:=fun v w'=>splitW (isG ops j) v fun v=>Q .normal (putO ρ o.dst v) w') ?_ (fun v w' h'=>⟨.inr hp.1.2,wpAnyL_done hp.2 ⟨_,hr.putO (hd o hmem) v,splitW_sound (K:=fun v=>Q .normal (putO ρ o.dst v) w') h',hf.trans (.putO (hm o hmem) v)⟩ f⟩) (fun c w' hx=>⟨hx,_,hr,hf⟩))
     rw [hr.eval]; exact opW_sound hA
    .rw [if_neg (by simp [hw])]
     exact ⟨.inr hp.1.2,wpAnyL_done hp.2 ⟨_,hr.putO (hd o hmem) undef,hB,hf.trans (.putO (hm o hmem) undef)⟩ f⟩
   .exact h.elim
 | take i r ih =>
  intro f li ρ w a hp h hS hcl hr hf
  cases f with
  | zero=>simp [planOk] at hp
  | succ f =>
   simp only [planOk,Bool.and_eq_true] at hp
   obtain ⟨⟨h1,h2⟩,h3⟩:=hp
   simp only [planW] at h
   split at h
   .rename_i o ho
    have hmem:o∈ops.toList:=by
     have:o∈ops:=Array.mem_of_getElem? ho
     simpa using this
    have fin:∀ v,YieldsIf P ops S o v a->planW P pk X ops S r (putO ρ o.dst v) (Q .normal) w->wpAnyL P ops (PostE D n Q X M ρ0) S (f+1) li a w:=fun v hy hh =>
     wpAnyL_take ho hcl hns h1 h2 (fun c a w hq=>by obtain ⟨h1,ρ',h2,h3⟩:=hq; exact ⟨h1,h2.unput h3 (hm o hmem)⟩) hy hS
      (ih f _ _ _ _ h3 hh hS (hcl.set (by simpa using h2)) (hr.putO (hd o hmem) v) (hf.trans (.putO (hm o hmem) v)))
    rcases gW_sound h with ⟨hw,hA⟩ | ⟨hw,hB⟩
    .obtain ⟨v,hv,hk⟩:=takeW_sound hA
     refine fin v (.inl ⟨by rw [hr.wanted]; exact hw,?_⟩) (splitW_sound (K:=fun v=>planW P pk X ops S r (putO ρ o.dst v) (Q .normal) w) hk)
     rw [hr.eval]; exact hv
    .exact fin undef (.inr ⟨by rw [hr.wanted]; exact hw,rfl⟩) hB
   .exact h.elim
 | one i r ih =>
  intro f li ρ w a hp h hS hcl hr hf
  cases f with
  | zero=>simp [planOk] at hp
  | succ f =>
   simp only [planOk,Bool.and_eq_true,beq_iff_eq] at hp
   refine wpAnyL_all hp.1 (by simp) fun j hj=>?_
   have hrd:j∈Region.ready .any ops li:=by rw [hp.1]; exact hj
   simp only [List.mem_singleton] at hj
   subst hj
   exact actW_sound hd hm h hS hr hf (fun c w' hx=>⟨hx,_,hr,hf⟩) fun ρ' a' w' hS' hn hr' hf'=>ih f _ _ _ _ hp.2 hn hS' (hcl.set hrd) hr' hf'
 | two i ri j rj ihi ihj =>
  intro f li ρ w a hp h hS hcl hr hf
  cases f with
  | zero=>simp [planOk] at hp
  | succ f =>
   simp only [planOk,Bool.and_eq_true,beq_iff_eq] at hp
   refine wpAnyL_all hp.1.1 (by simp) fun x hx=>?_
   have hrd:x∈Region.ready .any ops li:=by rw [hp.1.1]; exact hx
   simp only [List.mem_cons,List.not_mem_nil,or_false] at hx
   rcases hx with rfl | rfl
   .exact actW_sound hd hm h.1 hS hr hf (fun c w' hx=>⟨hx,_,hr,hf⟩) fun ρ' a' w' hS' hn hr' hf'=>ihi f _ _ _ _ hp.1.2 hn hS' (hcl.set hrd) hr' hf'
   .exact actW_sound hd hm h.2 hS hr hf (fun c w' hx=>⟨hx,_,hr,hf⟩) fun ρ' a' w' hS' hn hr' hf'=>ihj f _ _ _ _ hp.2 hn hS' (hcl.set hrd) hr' hf'
 | three i ri j rj k rk ihi ihj ihk =>
  intro f li ρ w a hp h hS hcl hr hf
  cases f with
  | zero=>simp [planOk] at hp
  | succ f =>
   simp only [planOk,Bool.and_eq_true,beq_iff_eq] at hp
   refine wpAnyL_all hp.1.1.1 (by simp) fun x hx=>?_
   have hrd:x∈Region.ready .any ops li:=by rw [hp.1.1.1]; exact hx
   simp only [List.mem_cons,List.not_mem_nil,or_false] at hx
   rcases hx with rfl | rfl | rfl
   .exact actW_sound hd hm h.1 hS hr hf (fun c w' hx=>⟨hx,_,hr,hf⟩) fun ρ' a' w' hS' hn hr' hf'=>ihi f _ _ _ _ hp.1.1.2 hn hS' (hcl.set hrd) hr' hf'
   .exact actW_sound hd hm h.2.1 hS hr hf (fun c w' hx=>⟨hx,_,hr,hf⟩) fun ρ' a' w' hS' hn hr' hf'=>ihj f _ _ _ _ hp.1.2 hn hS' (hcl.set hrd) hr' hf'
   .exact actW_sound hd hm h.2.2 hS hr hf (fun c w' hx=>⟨hx,_,hr,hf⟩) fun ρ' a' w' hS' hn hr' hf'=>ihk f _ _ _ _ hp.2 hn hS' (hcl.set hrd) hr' hf'
 | four i ri j rj k rk l rl ihi ihj ihk ihl =>
  intro f li ρ w a hp h hS hcl hr hf
  cases f with
  | zero=>simp [planOk] at hp
  | succ f =>
   simp only [planOk,Bool.and_eq_true,beq_iff_eq] at hp
   refine wpAnyL_all hp.1.1.1.1 (by simp) fun x hx=>?_
   have hrd:x∈Region.ready .any ops li:=by rw [hp.1.1.1.1]; exact hx
   simp only [List.mem_cons,List.not_mem_nil,or_false] at hx
   rcases hx with rfl | rfl | rfl | rfl
   .exact actW_sound hd hm h.1 hS hr hf (fun c w' hx=>⟨hx,_,hr,hf⟩) fun ρ' a' w' hS' hn hr' hf'=>ihi f _ _ _ _ hp.1.1.1.2 hn hS' (hcl.set hrd) hr' hf'
   .exact actW_sound hd hm h.2.1 hS hr hf (fun c w' hx=>⟨hx,_,hr,hf⟩) fun ρ' a' w' hS' hn hr' hf'=>ihj f _ _ _ _ hp.1.1.2 hn hS' (hcl.set hrd) hr' hf'
   .exact actW_sound hd hm h.2.2.1 hS hr hf (fun c w' hx=>⟨hx,_,hr,hf⟩) fun ρ' a' w' hS' hn hr' hf'=>ihk f _ _ _ _ hp.1.2 hn hS' (hcl.set hrd) hr' hf'
   .exact actW_sound hd hm h.2.2.2 hS hr hf (fun c w' hx=>⟨hx,_,hr,hf⟩) fun ρ' a' w' hS' hn hr' hf'=>ihl f _ _ _ _ hp.2 hn hS' (hcl.set hrd) hr' hf'
def noTake:Plan->Bool
 | .fin=>true
 | .last _=>false
 | .take _ _=>false
 | .one _ r=>noTake r
 | .two _ ri _ rj=>noTake ri && noTake rj
 | .three _ ri _ rj _ rk=>noTake ri && noTake rj && noTake rk
 | .four _ ri _ rj _ rk _ rl=>noTake ri && noTake rj && noTake rk && noTake rl
def noDrawA:Ann->Code->Bool
 | .draw p, .region _ _ _=>noTake p
 | .seq a b, .seq x y=>noDrawA a x && noDrawA b y
 | .join _ _ a b, .seq x y=>noDrawA a x && noDrawA b y
 | .cond a b, .cond _ x y=>noDrawA a x && noDrawA b y
 | .block a, .block _ x=>noDrawA a x
 | .loop _ _ a, .loop x=>noDrawA a x
 | .scope a, .scope x=>noDrawA a x
 | _,c=>noDraw c
theorem OpOk.rd{o:Oper}{ε:Operand->Value}{K:Value->Wd->Prop}{w:Wd}(h:OpOk P X false o ε K w):OpOk P X true o ε K w:=by
 unfold OpOk at *
 split at h <;> first | exact h | exact absurd h.1 (by decide) | trivial
theorem actI_sound{ro:Option Nat}{ops:Array Oper}{M:Nat->Bool}{ρ0:Env}{S:Wd->Prop}{i:Nat}{next:Env->Wd->Prop}{ρ:Env}{w:Wd}{a:Act}{K':Act->Wd->Prop}{Q:Exit->Act->Wd->Prop}
  (hd:∀ o∈ops.toList,dstOk n o.dst=true) (hm:∀ o∈ops.toList,∀ m,M m=true->maskO m o.dst=true) (h:actW P pk X ops S i next ρ w) (hr:Rep D n a ρ) (hf:FrM M ρ0 ρ) (hx:∀ c w',X c w'->Q (.panic c) a w')
  (hk:∀ ρ' a' w',next ρ' w'->Rep D n a' ρ'->FrM M ρ0 ρ'->K' a' w'):wpOpIn (wideR ro) 0 P ops Q i K' a w:=by
 unfold actW at h
 split at h
 .rename_i o ho
  have hmem:o∈ops.toList:=by
   have:o∈ops:=Array.mem_of_getElem? ho
   simpa using this
  unfold wpOpIn
  simp only [ho,hr.wanted]
  rcases gW_sound h with ⟨hw,hA⟩ | ⟨hw,hB⟩
  .rw [if_pos hw]
   refine opok_wpIn (X:=X) (K:=fun v w'=>S w'/\splitW (isG ops i) v fun v=>next (putO ρ o.dst v) w') (opW_nodefer hA) ?_ (fun v w' h'=>hk _ _ _ (splitW_sound (K:=fun v=>next (putO ρ o.dst v) w') h'.2) (hr.putO (hd o hmem) v) (hf.trans (.putO (hm o hmem) v))) hx
   rw [hr.eval]; exact (opW_sound hA).rd
  .rw [if_neg (by simp [hw])]
   exact ⟨fun _ _=>trivial,hk _ _ _ hB (hr.putO (hd o hmem) undef) (hf.trans (.putO (hm o hmem) undef))⟩
 .exact h.elim
theorem planI_sound{ro:Option Nat}{ops:Array Oper}{M:Nat->Bool}{Q:Exit->Env->Wd->Prop}{ρ0:Env}{S:Wd->Prop}(hd:∀ o∈ops.toList,dstOk n o.dst=true)
  (hm:∀ o∈ops.toList,∀ m,M m=true->maskO m o.dst=true):∀(p:Plan)(f:Nat)(li:Array Bool)(ρ:Env)(w:Wd)(a:Act),noTake p=true ->
  planOk ops p f li=true->planW P pk X ops S p ρ (Q .normal) w->Rep D n a ρ->FrM M ρ0 ρ ->
  wpAnyIn (wideR ro) 0 P .any ops (PostE D n Q X M ρ0) f li a w:=by
 have all:∀{l:List Nat}{f:Nat}{li:Array Bool}{a:Act}{w:Wd},Region.ready .any ops li=l->l≠[]->(∀ i∈l,wpOpIn (wideR ro) 0 P ops (PostE D n Q X M ρ0) i (wpAnyIn (wideR ro) 0 P .any ops (PostE D n Q X M ρ0) f (li.setIfInBounds i true)) a w)->wpAnyIn (wideR ro) 0 P .any ops (PostE D n Q X M ρ0) (f+1) li a w :=
  fun {l f li a w} h1 h2 h3=>⟨fun h=>(h2 (h1.symm.trans h)).elim,fun i hi=>h3 i (by rw [<- h1]; exact hi)⟩
 intro p
 induction p with
 | fin =>
  intro f li ρ w a _ hp h hr hf
  simp only [planOk,List.isEmpty_iff] at hp
  cases f with
  | zero=>exact ⟨hp,ρ,hr,h,hf⟩
  | succ f=>exact ⟨fun _=>⟨ρ,hr,h,hf⟩,fun i hi=>by rw [hp] at hi; cases hi⟩
 | last i=>intro f li ρ w a ht; cases ht
 | take i r ih=>intro f li ρ w a ht; cases ht
 | one i r ih =>
  intro f li ρ w a ht hp h hr hf
  cases f with
  | zero=>simp [planOk] at hp
  | succ f =>
   simp only [planOk,Bool.and_eq_true,beq_iff_eq] at hp
   refine all hp.1 (by simp) fun j hj=>?_
   simp only [List.mem_singleton] at hj
   subst hj
   exact actI_sound hd hm h hr hf (fun c w' hx=>⟨hx,_,hr,hf⟩) fun ρ' a' w' hn hr' hf'=>ih f _ _ _ _ ht hp.2 hn hr' hf'
 | two i ri j rj ihi ihj =>
  intro f li ρ w a ht hp h hr hf
  simp only [noTake,Bool.and_eq_true] at ht
  cases f with
  | zero=>simp [planOk] at hp
  | succ f =>
   simp only [planOk,Bool.and_eq_true,beq_iff_eq] at hp
   refine all hp.1.1 (by simp) fun x hx=>?_
   simp only [List.mem_cons,List.not_mem_nil,or_false] at hx
   rcases hx with rfl | rfl
   .exact actI_sound hd hm h.1 hr hf (fun c w' hx=>⟨hx,_,hr,hf⟩) fun ρ' a' w' hn hr' hf'=>ihi f _ _ _ _ ht.1 hp.1.2 hn hr' hf'
   .exact actI_sound hd hm h.2 hr hf (fun c w' hx=>⟨hx,_,hr,hf⟩) fun ρ' a' w' hn hr' hf'=>ihj f _ _ _ _ ht.2 hp.2 hn hr' hf'
 | three i ri j rj k rk ihi ihj ihk =>
  intro f li ρ w a ht hp h hr hf
  simp only [noTake,Bool.and_eq_true] at ht
  cases f with
  | zero=>simp [planOk] at hp
  | succ f =>
   simp only [planOk,Bool.and_eq_true,beq_iff_eq] at hp
   refine all hp.1.1.1 (by simp) fun x hx=>?_
   simp only [List.mem_cons,List.not_mem_nil,or_false] at hx
   rcases hx with rfl | rfl | rfl
   .exact actI_sound hd hm h.1 hr hf (fun c w' hx=>⟨hx,_,hr,hf⟩) fun ρ' a' w' hn hr' hf'=>ihi f _ _ _ _ ht.1.1 hp.1.1.2 hn hr' hf'
   .exact actI_sound hd hm h.2.1 hr hf (fun c w' hx=>⟨hx,_,hr,hf⟩) fun ρ' a' w' hn hr' hf'=>ihj f _ _ _ _ ht.1.2 hp.1.2 hn hr' hf'
   .exact actI_sound hd hm h.2.2 hr hf (fun c w' hx=>⟨hx,_,hr,hf⟩) fun ρ' a' w' hn hr' hf'=>ihk f _ _ _ _ ht.2 hp.2 hn hr' hf'
 | four i ri j rj k rk l rl ihi ihj ihk ihl =>
  intro f li ρ w a ht hp h hr hf
  simp only [noTake,Bool.and_eq_true] at ht
  cases f with
  | zero=>simp [planOk] at hp
  | succ f =>
   simp only [planOk,Bool.and_eq_true,beq_iff_eq] at hp
   refine all hp.1.1.1.1 (by simp) fun x hx=>?_
   simp only [List.mem_cons,List.not_mem_nil,or_false] at hx
   rcases hx with rfl | rfl | rfl | rfl
   .exact actI_sound hd hm h.1 hr hf (fun c w' hx=>⟨hx,_,hr,hf⟩) fun ρ' a' w' hn hr' hf'=>ihi f _ _ _ _ ht.1.1.1 hp.1.1.1.2 hn hr' hf'
   .exact actI_sound hd hm h.2.1 hr hf (fun c w' hx=>⟨hx,_,hr,hf⟩) fun ρ' a' w' hn hr' hf'=>ihj f _ _ _ _ ht.1.1.2 hp.1.1.2 hn hr' hf'
   .exact actI_sound hd hm h.2.2.1 hr hf (fun c w' hx=>⟨hx,_,hr,hf⟩) fun ρ' a' w' hn hr' hf'=>ihk f _ _ _ _ ht.1.2 hp.1.2 hn hr' hf'
   .exact actI_sound hd hm h.2.2.2 hr hf (fun c w' hx=>⟨hx,_,hr,hf⟩) fun ρ' a' w' hn hr' hf'=>ihl f _ _ _ _ ht.2 hp.2 hn hr' hf'
theorem appC_elim:∀(l:List (Nat×Sh))(J:Cur l)(ρ:Env)(w:Wd)(F:Env->Wd->Prop)(base:Env),appC l J ρ w->allC l J base F ->
  (∀ t,(l.all fun p=>decide (p.1≠t))=true->base t=ρ t)->F ρ w
 | [],J,ρ,w,F,base,ha,hall,hb=>by
  have:base=ρ:=funext fun t=>hb t rfl
  subst this; exact hall w ha
 | (t,s)::r,J,ρ,w,F,base,ha,hall,hb=>by
  obtain ⟨x,hx,hr⟩:=Sh.get_elim ha
  refine appC_elim r (J x) ρ w F _ hr (hall x) fun u hu=>?_
  by_cases e:u=t
  .subst e; rw [put_same,hx]
  .rw [put_ne _ _ e]
   refine hb u ?_
   simp only [List.all_cons,Bool.and_eq_true,decide_eq_true_eq]
   exact ⟨fun h=>e h.symm,hu⟩
theorem mix_eq{mask:Nat}{ρ ρ':Env}(h:∀ t,Nat.testBit mask t=false->ρ' t=ρ t):mix mask ρ' ρ=ρ':=by
 funext t
 unfold mix
 cases hb:Nat.testBit mask t with
 | true=>rfl
 | false=>exact (h t hb).symm
theorem wpIn_loop_ix{F:Fence}{c:Code}{Q:Exit->Act->Wd->Prop}(I:Nat->Act->Wd->Prop)
  (round:∀ m a w,I m a w->c.wpIn F 0 P (Exit.then (fun a' w'=>∃ m',m' < m/\I m' a' w') Q) a w) {m:Nat} {a:Act} {w:Wd} (h₀:I m a w):(Code.loop c).wpIn F 0 P Q a w:=by
 classical
 have least:∀ a w,(∃ m,I m a w)->∃ m,I m a w/\∀ k,I k a w->m<=k:=fun a w ⟨m,hm⟩=>by
  induction m using Nat.strongRecOn with
  | _ m ih =>
   by_cases hk:∃ k,k < m/\I k a w
   .obtain ⟨k,hk,hI⟩:=hk; exact ih k hk hI
   .exact ⟨m,hm,fun k hI=>by
     rcases Nat.lt_or_ge k m with h | h
     .exact absurd ⟨k,h,hI⟩ hk
     .exact h⟩
 refine wpIn_loop (fun a w=>∃ m,I m a w) (fun a w=>if h:∃ m,I m a w then Classical.choose (least a w h) else 0) ⟨m,h₀⟩ ?_
 intro a w hI
 have hs:=Classical.choose_spec (least a w hI)
 refine wpIn_mono (round _ a w hs.1) ?_
 intro e a' w' hq
 cases e with
 | normal =>
  obtain ⟨m',hlt,hI'⟩:=hq
  refine ⟨⟨m',hI'⟩,?_⟩
  rw [dif_pos hI,dif_pos ⟨m',hI'⟩]
  exact Nat.lt_of_le_of_lt ((Classical.choose_spec (least a' w' ⟨m',hI'⟩)).2 m' hI') hlt
 | _=>exact hq
theorem wpIn_scope_straight{F:Fence}{c:Code}{Q:Exit->Act->Wd->Prop}{a:Act}{w:Wd}(hF:F=Fence.wide)(h:c.wpIn F 0 P (Exit.noGoto Q) a w):(Code.scope c).wpIn F 0 P Q a w:=by
 subst hF
 exact wpIn_wide.2 (wp_scope_straight (wpIn_wide.1 h))
def noScope:Code->Bool
 | .seq a b=>noScope a && noScope b
 | .cond _ a b=>noScope a && noScope b
 | .block _ a=>noScope a
 | .scope _=>false
 | .loop a=>noScope a
 | _=>true
theorem ready_ne{ops:Array Oper}{listed:Array Bool}(hl:listed.size=ops.size)(ha:afterLt ops=true)(h:Region.ready .any ops listed=[]):∀ i,i < ops.size->listed.getD i false=true:=by
 intro i
 induction i using Nat.strongRecOn with
 | _ i ih =>
  intro hi
  cases hd:listed.getD i false with
  | true=>rfl
  | false =>
   exfalso
   have hm:i∈Region.ready .any ops listed:=by
    refine mem_ready.2 ⟨by simpa [hl,hi] using hd,ops[i],by simp [hi],fun e he _=>ih e.on ?_ ?_⟩
    .simp only [afterLt,List.all_eq_true,List.mem_range] at ha
     have:=ha i hi
     simp only [hi,getElem?_pos,List.all_eq_true] at this
     have:=this e (by simpa using he)
     simp [Nat.blt] at this; omega
    .simp only [afterLt,List.all_eq_true,List.mem_range] at ha
     have:=ha i hi
     simp only [hi,getElem?_pos,List.all_eq_true] at this
     have:=this e (by simpa using he)
     simp [Nat.blt] at this; omega
   rw [h] at hm; cases hm
theorem free_sound{ops:Array Oper}{M:Nat->Bool}{Q:Exit->Env->Wd->Prop}{ρ0:Env}{Inv:(Nat->Bool)->Env->Wd->Prop}(hd:∀ o∈ops.toList,dstOk n o.dst=true)
  (hm:∀ o∈ops.toList,∀ m,M m=true->maskO m o.dst=true) (ha:afterLt ops=true) (hend:∀ d ρ w,Inv d ρ w->(∀ i,i < ops.size->d i=true)->Q .normal ρ w)
  (hstep:∀ d ρ w,Inv d ρ w->∀ i,d i=false->afterB ops i d=true->stepW P pk X ops i (fun ρ' w'=>Inv (doneB d i) ρ' w') ρ w) :
  ∀(f:Nat)(listed:Array Bool)(ρ:Env)(w:Wd)(a:Act),listed.size=ops.size->listed.toList.count false<=f->Inv (fun i=>listed.getD i false) ρ w->Rep D n a ρ->FrM M ρ0 ρ->wpAny P .any ops (PostE D n Q X M ρ0) f listed a w:=by
 intro f
 have fin:∀(listed:Array Bool)(ρ:Env)(w:Wd)(a:Act),listed.size=ops.size->Inv (fun i=>listed.getD i false) ρ w->Rep D n a ρ->FrM M ρ0 ρ->Region.ready .any ops listed=[]->PostE D n Q X M ρ0 .normal a w:=fun listed ρ w a hl hi hr hf h=>⟨ρ,hr,hend _ ρ w hi (ready_ne hl ha h),hf⟩
 induction f with
 | zero =>
  intro listed ρ w a hl hc hi hr hf
  have hall:∀ i,i < ops.size->listed.getD i false=true:=fun i h=>by
   cases hb:listed.getD i false with
   | true=>rfl
   | false =>
    exfalso
    have hlt:i < listed.size:=by omega
    have:false∈listed.toList:=by
     have e:listed[i]=false:=by simpa [hlt] using hb
     rw [<- e]; simp
    have:=List.count_pos_iff.2 this
    omega
  have hnil:Region.ready .any ops listed=[]:=by
   rw [List.eq_nil_iff_forall_not_mem]
   intro i h
   obtain ⟨h1,o,ho,_⟩:=mem_ready.1 h
   have hlt:i < ops.size:=(Array.getElem?_eq_some_iff.1 ho).1
   have:=hall i hlt
   have hlt':i < listed.size:=by omega
   simp [hlt'] at h1 this
   rw [h1] at this; cases this
  exact ⟨hnil,fin listed ρ w a hl hi hr hf hnil⟩
 | succ f ih =>
  intro listed ρ w a hl hc hi hr hf
  refine ⟨fun h=>fin listed ρ w a hl hi hr hf h,fun i hri=>?_⟩
  obtain ⟨h1,o,ho,h2⟩:=mem_ready.1 hri
  have hlt:i < ops.size:=(Array.getElem?_eq_some_iff.1 ho).1
  have hlt':i < listed.size:=by omega
  have hun:listed.getD i false=false:=by simpa [hlt'] using h1
  have haf:afterB ops i (fun i=>listed.getD i false)=true:=by
   unfold afterB
   rw [ho]
   simp only [List.all_eq_true,Bool.or_eq_true,Bool.not_eq_true']
   intro e he
   cases hb:Region.binds .any e with
   | false=>exact .inl rfl
   | true=>exact .inr (h2 e (by simpa using he) hb)
  have hs:=hstep _ ρ w hi i hun haf
  have hmem:o∈ops.toList:=by
   have:o∈ops:=Array.mem_of_getElem? ho
   simpa using this
  have hd':doneB (fun i=>listed.getD i false) i=fun j=>(listed.setIfInBounds i true).getD j false:=by
   funext j
   unfold doneB
   by_cases e:j=i
   .subst e; simp [hlt']
   .have:Nat.beq j i=false:=by
     cases hb:Nat.beq j i with
     | false=>rfl
     | true=>exact absurd (Nat.eq_of_beq_eq_true hb) e
    have e2:¬ i=j:=fun h=>e h.symm
    simp [this,e2]
  have hcnt:(listed.setIfInBounds i true).toList.count false<=f:=by
   rw [Array.toList_setIfInBounds]
   have e1:listed.toList[i]'(by simpa using hlt')=false:=by simpa [hlt'] using hun
   have h5:listed.toList=listed.toList.take i++false::listed.toList.drop (i+1):=by
    rw [<- e1]; exact (List.take_append_drop i _).symm.trans (by rw [List.drop_eq_getElem_cons])
   have h6:listed.toList.set i true=listed.toList.take i++true::listed.toList.drop (i+1):=by
    rw [List.set_eq_take_append_cons_drop,if_pos (by simpa using hlt')]
   rw [h6]
   rw [h5] at hc
   simp only [List.count_append,List.count_cons] at hc ⊢
   simp at hc ⊢
   omega
  have next:∀ ρ' a' w',Inv (doneB (fun i=>listed.getD i false) i) ρ' w'->Rep D n a' ρ'->FrM M ρ0 ρ'->wpAny P .any ops (PostE D n Q X M ρ0) f (listed.setIfInBounds i true) a' w':=fun ρ' a' w' h hr' hf'=>ih _ ρ' w' a' (by simp [hl]) hcnt (hd' ▸ h) hr' hf'
  unfold stepW at hs
  rw [ho] at hs
  unfold wpOp
  simp only [ho,hr.wanted]
  rcases gW_sound hs with ⟨hw,hA⟩ | ⟨hw,hB⟩
  .rw [if_pos hw]
   refine .inl (opok_wp (X:=X) (K:=fun v w'=>Inv (doneB (fun i=>listed.getD i false) i) (putO ρ o.dst v) w') ?_ (fun v w' h'=>next _ _ _ h' (hr.putO (hd o hmem) v) (hf.trans (.putO (hm o hmem) v))) (fun c w' hx=>⟨hx,_,hr,hf⟩))
   rw [hr.eval]; exact opW_sound hA
  .rw [if_neg (by simp [hw])]
   exact next _ _ _ hB (hr.putO (hd o hmem) undef) (hf.trans (.putO (hm o hmem) undef))
theorem wpc_sound{ro:Option Nat}:∀(ann:Ann)(c:Code)(Q:Exit->Env->Wd->Prop)(ρ:Env)(w:Wd)(a:Act),(ro=none∨(noDrawA ann c=true/\noScope c=true))->chk P n ann c=true->wpc P pk X ann c Q ρ w->Rep D n a ρ ->
  c.wpIn (wideR ro) 0 P (PostE D n Q X (fun m=>maskC m c) ρ) a w:=by
 intro ann
 induction ann with
 | nil =>
  intro c Q ρ w a hro hc h hr
  cases c <;> (try simp only [wpc] at h) <;> try exact h.elim
  case skip=>exact wpIn_skip ⟨ρ,hr,h, .refl _ _⟩
  case label l=>exact wpIn_label ⟨ρ,hr,h, .refl _ _⟩
  case exit i=>exact wpIn_exit ⟨ρ,hr,h, .refl _ _⟩
  case goto l=>exact wpIn_goto ⟨ρ,hr,h, .refl _ _⟩
  case ret=>exact wpIn_ret ⟨ρ,hr,h, .refl _ _⟩
  case region id ops d =>
   cases d with
   | true=>exact h.elim
   | false =>
   simp only [chk,List.all_eq_true] at hc
   refine wpIn_region ?_
   have:=seqW_sound (ro:=ro) (n:=n) (M:=fun m=>maskC m (.region id ops false)) (Q:=Q) (ρ0:=ρ) ops.toList [] ρ w a rfl hc (fun o ho m hm=>by
    simp only [maskC,List.all_eq_true] at hm; exact hm o ho) h hr (.refl _ _)
   simpa [List.range_eq_range'] using this
 | draw p =>
  intro c Q ρ w a hro hc h hr
  cases c <;> (try simp only [wpc] at h) <;> try exact h.elim
  rename_i id ops d
  cases d with
  | false=>exact h.elim
  | true =>
  obtain ⟨S,hS,h⟩:=h
  simp only [chk,Bool.and_eq_true,List.all_eq_true] at hc
  have hmm:∀ o∈ops.toList,∀ m,maskC m (.region id ops true)=true->maskO m o.dst=true:=fun o ho m hm=>by
   simp only [maskC,List.all_eq_true] at hm; exact hm o ho
  rcases hro with hro' | hro'
  .subst hro'
   exact wpIn_wide.2 (wp_region_L hc.1.2 (planW_sound hc.1.1.1 hmm hc.1.1.2 p _ _ ρ _ a hc.2 h hS Closed.start hr (.refl _ _)))
  .exact wpIn_region_any hc.1.2 (planI_sound hc.1.1.1 hmm p _ _ ρ _ a hro'.1 hc.2 h hr (.refl _ _))
 | free =>
  intro c Q ρ w a hro hc h hr
  cases c <;> (try simp only [wpc] at h) <;> try exact h.elim
  rename_i id ops d
  cases d with
  | false=>exact h.elim
  | true =>
  rcases hro with hro' | hro'
  .subst hro'
   simp only [chk,Bool.and_eq_true,List.all_eq_true] at hc
   have hmm:∀ o∈ops.toList,∀ m,maskC m (.region id ops true)=true->maskO m o.dst=true:=fun o ho m hm=>by
    simp only [maskC,List.all_eq_true] at hm; exact hm o ho
   obtain ⟨Inv,h1,h2,h3⟩:=h
   refine wpIn_wide.2 (wp_region_any hc.1.2 (free_sound (Inv:=Inv) hc.1.1 hmm hc.2 h2 h3 _ _ ρ _ a (by simp) ?_ ?_ hr (.refl _ _)))
   .simp
   .have e:(fun i=>(Array.replicate ops.size false).getD i false)=fun _=>false:=by
     funext i
     rcases Nat.lt_or_ge i ops.size with h | h <;> simp [h]
    rw [e]; exact h1
  .simp [noDrawA,noDraw] at hro'
 | seq x y ihx ihy =>
  intro c Q ρ w a hro hc h hr
  cases c <;> simp only [wpc] at h
  rename_i cx cy
  simp only [chk,Bool.and_eq_true] at hc
  have hx:ro=none∨(noDrawA x cx=true/\noScope cx=true):=hro.imp id fun h=>by simp only [noDrawA,noScope,Bool.and_eq_true] at h; exact ⟨h.1.1,h.2.1⟩
  have hy:ro=none∨(noDrawA y cy=true/\noScope cy=true):=hro.imp id fun h=>by simp only [noDrawA,noScope,Bool.and_eq_true] at h; exact ⟨h.1.2,h.2.2⟩
  refine wpIn_seq (wpIn_mono (ihx cx (thenE (wpc P pk X y cy Q) Q) ρ w a hx hc.1 h hr) ?_)
  intro e a' w' hp
  have m1:∀ m,maskC m (.seq cx cy)=true->maskC m cx=true:=fun m hm=>by simp only [maskC,Bool.and_eq_true] at hm; exact hm.1
  have m2:∀ m,maskC m (.seq cx cy)=true->maskC m cy=true:=fun m hm=>by simp only [maskC,Bool.and_eq_true] at hm; exact hm.2
  cases e with
  | normal =>
   obtain ⟨ρ',hr',hq,hf⟩:=hp
   exact wpIn_mono (ihy cy Q ρ' w' a' hy hc.2 hq hr') fun e a'' w'' hp=>(hp.mono m2).from (hf.mono m1)
  | panic c=>obtain ⟨hx,ρ',hr',hf⟩:=hp; exact ⟨hx,ρ',hr',hf.mono m1⟩
  | outgrown=>exact hp
  | exit i=>obtain ⟨ρ',hr',hq,hf⟩:=hp; exact ⟨ρ',hr',hq,hf.mono m1⟩
  | goto i=>obtain ⟨ρ',hr',hq,hf⟩:=hp; exact ⟨ρ',hr',hq,hf.mono m1⟩
  | ret=>obtain ⟨ρ',hr',hq,hf⟩:=hp; exact ⟨ρ',hr',hq,hf.mono m1⟩
 | join l mask x y ihx ihy =>
  intro c Q ρ w a hro hc h hr
  cases c <;> simp only [wpc] at h
  rename_i cx cy
  simp only [chk,Bool.and_eq_true] at hc
  have hx:ro=none∨(noDrawA x cx=true/\noScope cx=true):=hro.imp id fun h=>by simp only [noDrawA,noScope,Bool.and_eq_true] at h; exact ⟨h.1.1,h.2.1⟩
  have hy:ro=none∨(noDrawA y cy=true/\noScope cy=true):=hro.imp id fun h=>by simp only [noDrawA,noScope,Bool.and_eq_true] at h; exact ⟨h.1.2,h.2.2⟩
  obtain ⟨J,h1,h2⟩:=h
  refine wpIn_seq (wpIn_mono (ihx cx (thenE (appC l J) Q) ρ w a hx hc.1.1.1 h1 hr) ?_)
  intro e a' w' hp
  have m1:∀ m,maskC m (.seq cx cy)=true->maskC m cx=true:=fun m hm=>by simp only [maskC,Bool.and_eq_true] at hm; exact hm.1
  have m2:∀ m,maskC m (.seq cx cy)=true->maskC m cy=true:=fun m hm=>by simp only [maskC,Bool.and_eq_true] at hm; exact hm.2
  cases e with
  | normal =>
   obtain ⟨ρ',hr',hq,hf⟩:=hp
   have hmix:=mix_eq (hf mask hc.1.2)
   have:=appC_elim l J ρ' w' _ (mix mask ρ' ρ) hq (h2 ρ') (fun t _=>by rw [hmix])
   exact wpIn_mono (ihy cy Q ρ' w' a' hy hc.1.1.2 this hr') fun e a'' w'' hp=>(hp.mono m2).from (hf.mono m1)
  | panic c=>obtain ⟨hx,ρ',hr',hf⟩:=hp; exact ⟨hx,ρ',hr',hf.mono m1⟩
  | outgrown=>exact hp
  | exit i=>obtain ⟨ρ',hr',hq,hf⟩:=hp; exact ⟨ρ',hr',hq,hf.mono m1⟩
  | goto i=>obtain ⟨ρ',hr',hq,hf⟩:=hp; exact ⟨ρ',hr',hq,hf.mono m1⟩
  | ret=>obtain ⟨ρ',hr',hq,hf⟩:=hp; exact ⟨ρ',hr',hq,hf.mono m1⟩
 | cond x y ihx ihy =>
  intro c Q ρ w a hro hc h hr
  cases c <;> simp only [wpc] at h
  rename_i v cx cy
  simp only [chk,Bool.and_eq_true] at hc
  have hx:ro=none∨(noDrawA x cx=true/\noScope cx=true):=hro.imp id fun h=>by simp only [noDrawA,noScope,Bool.and_eq_true] at h; exact ⟨h.1.1,h.2.1⟩
  have hy:ro=none∨(noDrawA y cy=true/\noScope cy=true):=hro.imp id fun h=>by simp only [noDrawA,noScope,Bool.and_eq_true] at h; exact ⟨h.1.2,h.2.2⟩
  unfold condW at h
  split at h
  .rename_i b hb
   have he:a.eval v = .bool b:=by rw [hr.eval]; exact hb
   refine wpIn_cond_split he (fun hb=>?_) (fun hb=>?_)
   .exact wpIn_mono (ihx cx Q ρ w a hx hc.1 (h.out.1 hb) hr) fun e a' w' hp=>hp.mono fun m hm=>by simp only [maskC,Bool.and_eq_true] at hm; exact hm.1
   .exact wpIn_mono (ihy cy Q ρ w a hy hc.2 (h.out.2 hb) hr) fun e a' w' hp=>hp.mono fun m hm=>by simp only [maskC,Bool.and_eq_true] at hm; exact hm.2
  .exact h.elim
 | block x ihx =>
  intro c Q ρ w a hro hc h hr
  cases c <;> simp only [wpc] at h
  rename_i id cx
  simp only [chk] at hc
  refine wpIn_block (wpIn_mono (ihx cx (blockE id Q) ρ w a (hro.imp (fun h=>h) fun h=>by simpa only [noDrawA,noScope] using h) hc h hr) ?_)
  intro e a' w' hp
  cases e with
  | exit i =>
   obtain ⟨ρ',hr',hq,hf⟩:=hp
   simp only [blockE] at hq
   simp only [Exit.inBlock]
   cases hb:Nat.beq i id with
   | true =>
    have:=Nat.eq_of_beq_eq_true hb
    subst this
    rw [hb] at hq
    rw [if_pos rfl]; exact ⟨ρ',hr',hq,hf⟩
   | false =>
    rw [hb] at hq
    rw [if_neg (fun e=>by subst e; simp at hb)]; exact ⟨ρ',hr',hq,hf⟩
  | panic c=>exact hp
  | outgrown=>exact hp
  | normal=>obtain ⟨ρ',hr',hq,hf⟩:=hp; exact ⟨ρ',hr',hq,hf⟩
  | goto i=>obtain ⟨ρ',hr',hq,hf⟩:=hp; exact ⟨ρ',hr',hq,hf⟩
  | ret=>obtain ⟨ρ',hr',hq,hf⟩:=hp; exact ⟨ρ',hr',hq,hf⟩
 | scope x ihx =>
  intro c Q ρ w a hro hc h hr
  cases c <;> simp only [wpc] at h
  rename_i cx
  simp only [chk] at hc
  have hro':ro=none:=hro.resolve_right (by simp [noScope])
  subst hro'
  refine wpIn_scope_straight rfl (wpIn_mono (ihx cx (scopeE Q) ρ w a (.inl rfl) hc h hr) ?_)
  intro e a' w' hp
  cases e with
  | goto i=>obtain ⟨ρ',hr',hq,hf⟩:=hp; exact hq.elim
  | panic c=>exact hp
  | outgrown=>exact hp
  | normal=>obtain ⟨ρ',hr',hq,hf⟩:=hp; exact ⟨ρ',hr',hq,hf⟩
  | exit i=>obtain ⟨ρ',hr',hq,hf⟩:=hp; exact ⟨ρ',hr',hq,hf⟩
  | ret=>obtain ⟨ρ',hr',hq,hf⟩:=hp; exact ⟨ρ',hr',hq,hf⟩
 | loop l mask x ihx =>
  intro c Q ρ w a hro hc h hr
  cases c <;> simp only [wpc] at h
  rename_i cx
  simp only [chk,Bool.and_eq_true] at hc
  have hx:ro=none∨(noDrawA x cx=true/\noScope cx=true):=hro.imp id fun h=>by simpa only [noDrawA,noScope] using h
  obtain ⟨I,⟨m,hm⟩,hround⟩:=h
  refine wpIn_loop_ix (fun m a w=>∃ ρ',Rep D n a ρ'/\appC l (I m) ρ' w/\FrM (fun m=>maskC m (.loop cx)) ρ ρ') ?_ ⟨ρ,hr,hm, .refl _ _⟩
  rintro m a w ⟨ρ',hr',ha,hf⟩
  have hmix:=mix_eq (hf mask hc.1.2)
  have:=appC_elim l (I m) ρ' w _ (mix mask ρ' ρ) ha (hround ρ' m) (fun t _=>by rw [hmix])
  refine wpIn_mono (ihx cx (thenE (fun ρ'' w''=>∃ m',m' < m/\appC l (I m') ρ'' w'') Q) ρ' w a hx hc.1.1 this hr') ?_
  intro e a'' w'' hp
  have hm1:∀ m,maskC m (.loop cx)=true->maskC m cx=true:=fun m hm=>by simpa only [maskC] using hm
  have hp:=(hp.mono hm1).from hf
  cases e with
  | normal=>obtain ⟨ρ'',hr'',hq,hf3⟩:=hp; obtain ⟨m',hlt,hq⟩:=hq; exact ⟨m',hlt,ρ'',hr'',hq,hf3⟩
  | panic c=>exact hp
  | outgrown=>exact hp
  | exit i=>exact hp
  | goto i=>exact hp
  | ret=>exact hp
def resM(tmps:Array Value):ResultVar->Sem Value
 | .tmp t=>pure (tmps.getD t undef)
 | .cell x t=>do loadVar t (<- asAddr (tmps.getD x undef))
theorem resW_sound{a:Act}{ρ:Env}{w:Wd}(hr:Rep D n a ρ):∀(rs:List ResultVar)(F:List Value->Prop),resW P rs ρ w F ->
  ∃ vs,(rs.mapM (resM a.tmps)).run P w = .ok vs w/\F vs
 | [],F,h=>⟨[],by simp,h⟩
 | .tmp t::r,F,h=>by
  obtain ⟨vs,h1,h2⟩:=resW_sound hr r _ h
  refine ⟨_,?_,h2⟩
  have e:(resM a.tmps (.tmp t)).run P w = .ok (ρ t) w:=by rw [<- hr.get t]; rfl
  rw [List.mapM_cons,Sem.run_bind,e,Result.andThen_ok,Sem.run_bind,h1]; rfl
 | .cell x t::r,F,h=>by
  obtain ⟨v,hv,h⟩:=loadC_sound h
  obtain ⟨vs,h1,h2⟩:=resW_sound hr r _ h
  refine ⟨_,?_,h2⟩
  have hx:(resM a.tmps (.cell x t)).run P w = .ok v w:=by
   have:=hv w (fun _ _ h=>h)
   show (do loadVar t (<- asAddr (a.tmps.getD x undef)):Sem Value).run P w=_
   rw [hr.get]
   cases hp:ρ x <;> rw [hp] at this <;> simp only [Instr.loadAt,Instr.sureAddr,Sem.run_bind] at this <;> first | (simp [stuck] at this; done) | skip
   rename_i p
   cases p with
   | none=>simp [stuck] at this
   | some p=>simpa [asAddr] using this
  rw [List.mapM_cons,Sem.run_bind,hx,Result.andThen_ok,Sem.run_bind,h1]; rfl
theorem results_run{fn:Func}{a:Act}{ρ:Env}{w:Wd}(hr:Rep D n a ρ){F:List Value->Prop}(h:resW P fn.results.toList ρ w F):∃ vs,(results fn a.tmps).run P w = .ok (tup vs) w/\F vs:=by
 obtain ⟨vs,h1,h2⟩:=resW_sound hr fn.results.toList F h
 refine ⟨vs,?_,h2⟩
 have e0:results fn a.tmps=(do let vs <- fn.results.mapM (resM a.tmps); pure (if h:vs.size=1 then vs[0] else .tuple vs)):=by
  unfold results
  congr 1
 rw [e0,Array.mapM_eq_mapM_toList,Sem.run_bind,Sem.run_map]
 have e:∀(r:Result (List Value)),r = .ok vs w->((r.andThen fun a w'=>Result.ok a.toArray w').andThen fun vs w'=>Sem.run P (pure (if h:vs.size=1 then vs[0] else .tuple vs)) w') = .ok (tup vs) w:=by
  intro r hr
  subst hr
  simp only [Result.andThen_ok,Sem.run_pure]
  congr 1
  match vs with
  | []=>rfl
  | [v]=>rfl
  | _::_::_=>simp [tup]
 exact e _ h1
def callKX(P:Program)(f:FuncId)(args:Array Value)(l:List Ty)(K:CurT l)(X:PX)(w:Wd):Prop :=
 Calls P f args w (fun e w'=>exC l K (fun vs Y=>e = .returned (tup vs)/\Y w')∨∃ c,e = .panicked c/\X c w')
theorem args_rep{args:List Value}{m:Nat}(ha:Nat.ble args.length m=true):Rep [] m { tmps:=args.toArray++Array.replicate (m - args.toArray.size) undef,defers:=[] } (argEnv args):=by
 have hle:=Nat.le_of_ble_eq_true ha
 refine ⟨rfl,by simp; omega,fun t=>?_⟩
 simp only [argEnv]
 rcases Nat.lt_or_ge t args.length with h | h
 .simp [Array.getElem?_append,h]
 .simp [List.getD,Array.getElem?_append,Array.getElem?_replicate,Nat.not_lt.2 h]
  split <;> rfl
theorem fn_soundX{f:FuncId}{fn:Func}{c:Code}{ann:Ann}{args:List Value}{tys:List Ty}{K:CurT tys}{w:Wd}(hf:P.funcs[f]? = some fn)(hb:fn.body=some c)
  (hc:chk P fn.ntmps ann c=true) (ha:Nat.ble args.length fn.ntmps=true) (h:wpc P pk X ann c (retK P tys fn.results.toList K) (argEnv args) w):callKX P f args.toArray tys K X w:=by
 refine calls_of_wp hf hb (wp_mono (wpIn_wide.1 (wpc_sound (ro:=none) (n:=fn.ntmps) (D:=[]) ann c _ _ w _ (.inl rfl) hc h (args_rep ha))) ?_)
 intro e a' w' hp
 have fin:∀{ρ':Env},Rep [] fn.ntmps a' ρ'->resW P fn.results.toList ρ' w' (fun vs=>getC tys vs K w')->∃ v,(results fn a'.tmps).run P w' = .ok v w'/\(exC tys K (fun vs Y=>Ending.returned v = .returned (tup vs)/\Y w')∨∃ c,Ending.returned v = .panicked c/\X c w'):=fun hr' hq=>by
  obtain ⟨vs,h1,h2⟩:=results_run hr' hq
  exact ⟨_,h1, .inl (exC_mono tys K (fun us X hh=>⟨by rw [hh.1],hh.2⟩) (getC_elim tys vs K w' h2))⟩
 cases e with
 | normal=>obtain ⟨ρ',hr',hq,_⟩:=hp; exact ⟨hr'.defers,fin hr' hq⟩
 | ret=>obtain ⟨ρ',hr',hq,_⟩:=hp; exact ⟨hr'.defers,fin hr' hq⟩
 | panic c=>obtain ⟨h1,ρ',h2,_⟩:=hp; exact ⟨h2.defers, .inr ⟨c,rfl,h1⟩⟩
 | exit i=>obtain ⟨ρ',hr',hq,_⟩:=hp; exact hq.elim
 | goto i=>obtain ⟨ρ',hr',hq,_⟩:=hp; exact hq.elim
 | outgrown=>exact hp.elim
abbrev NoX:PX:=fun _ _=>False
theorem fn_sound{f:FuncId}{fn:Func}{c:Code}{ann:Ann}{args:List Value}{tys:List Ty}{K:CurT tys}{w:Wd}(hf:P.funcs[f]? = some fn)(hb:fn.body=some c)
  (hc:chk P fn.ntmps ann c=true) (ha:Nat.ble args.length fn.ntmps=true) (h:wpc P pk NoX ann c (retK P tys fn.results.toList K) (argEnv args) w):callK P f args.toArray tys K w :=
 Calls.mono (fn_soundX hf hb hc ha h) fun _ _ h=>h.elim id fun ⟨_,_,hc⟩=>hc.elim
theorem mkS{f:FuncId}{fn:Func}{ann:Ann}{args:List Value}{tys:List Ty}{K:CurT tys}{w:Wd}{F C:Prop}(hf:P.funcs[f]? = some fn)
  (hF:F=wpc P pk NoX ann (fn.body.getD .skip) (retK P tys fn.results.toList K) (argEnv args) w) (hc:(fn.body.isSome && Nat.ble args.length fn.ntmps && chk P fn.ntmps ann (fn.body.getD .skip))=true)
  (hC:callK P f args.toArray tys K w=C) (h:F):C:=by
 simp only [Bool.and_eq_true] at hc
 obtain ⟨c,hb⟩:=Option.isSome_iff_exists.1 hc.1.1
 have e:fn.body.getD .skip=c:=by rw [hb]; rfl
 rw [e] at hF hc
 rw [<- hC]
 exact fn_sound hf hb hc.2 hc.1.2 (hF ▸ h)
theorem mkV{rd:Bool}{fv:Value}{args:List Value}{f:FuncId}{ars:Array Value}{tys:List Ty}{K:CurT tys}{w:Wd}{C:Prop}(hr:(dynS fv args).run P w = .ok (.enter f ars) w)(hC:C=callK P f ars tys K w)(h:C):dynV P rd fv args tys K X w:=by
 unfold dynV Invk
 rw [hr]
 subst hC
 exact Calls.mono h fun _ _ h => .inl h
theorem mkI{recv:Value}{m:String}{args:List Value}{f:FuncId}{ars:Array Value}{tys:List Ty}{K:CurT tys}{w:Wd}{C:Prop}(hr:(invoke (.fn (.method m) #[]) (#[recv]++args.toArray)).run P w = .ok (.enter f ars) w)(hC:C=callK P f ars tys K w)(h:C) :
  invV P recv m args tys K X w:=by
 unfold invV Invk
 rw [hr]
 subst hC
 exact Calls.mono h fun _ _ h => .inl h
end sound
end Go.V
set_option maxRecDepth 100000
namespace Go.V
def seqL:Code->Code
 | .seq a _=>a
 | c=>c
def seqR:Code->Code
 | .seq _ b=>b
 | c=>c
def regOps:Code->Array Oper
 | .region _ ops _=>ops
 | _=>#[]
inductive Dp where
 | last (a:Ann)
 | next (a:Ann) (s:Dp)
 | dfr (s:Dp)
def dfO(o:Oper)(ρ:Env):Option Deferred:=match o.guard,o.dst,o.op with
 | none,none, .defer c=>match c.callee with
  | .value f=>match ev ρ f with
   | .func fn first cap=>some { target := .fn fn cap,args:=first++c.args.map (ev ρ) }
   | _=>none
  | _=>none
 | _,_,_=>none
def dfK(d:Option Deferred)(K:Deferred->Prop):Prop:=match d with
 | some d=>K d
 | none=>False
def dfW(P:Program)(pk:Nat)(X:PX)(ops:Array Oper):Nat->List Oper->Env->(Env->Deferred->Wd->Prop)->Wd->Prop
 | _,[],_,_,_=>False
 | _,[o],ρ,K,w=>dfK (dfO o ρ) fun d=>K ρ d w
 | i,o::r,ρ,K,w=>gW ops o ρ (opW P pk X false o ρ (fun v w'=>splitW (isG ops i) v fun v=>dfW P pk X ops (i+1) r (putO ρ o.dst v) K w') w) (dfW P pk X ops (i+1) r (putO ρ o.dst undef) K w)
def finE(fin:List Deferred->Env->Wd->Prop)(D:List Deferred):Exit->Env->Wd->Prop
 | .ret,ρ,w=>fin D ρ w
 | .normal,ρ,w=>fin D ρ w
 | _,_,_=>False
def wpDp(P:Program)(pk:Nat):Dp->Code->List Deferred->(List Deferred->Env->Wd->Prop)->Env->Wd->Prop
 | .last a,c,D,fin,ρ,w=>wpc P pk NoX a c (finE fin D) ρ w
 | .next a s, .seq x y,D,fin,ρ,w=>wpc P pk NoX a x (thenE (fun ρ w=>wpDp P pk s y D fin ρ w) (finE fin D)) ρ w
 | .dfr s, .seq (.region _ ops false) y,D,fin,ρ,w=>dfW P pk NoX ops 0 ops.toList ρ (fun ρ d w=>wpDp P pk s y (d::D) fin ρ w) w
 | _,_,_,_,_,_=>False
def dpOk(P:Program)(n:Nat):Dp->Code->Bool
 | .last a,c=>chk P n a c
 | .next a s, .seq x y=>chk P n a x && dpOk P n s y
 | .dfr s, .seq (.region _ ops false) y=>(ops.toList.all fun o=>dstOk n o.dst) && dpOk P n s y
 | _,_=>false
def retD(P:Program)(f:FuncId)(args:Array Value)(K:Wd->Prop)(w:Wd):Prop:=(∃ fn,P.funcs[f]? = some fn/\callable fn=true)/\CallsD P f args .returning w (fun e u w'=>(∃ v,e = .returned v)/\u = .returning/\K w')
def leaveW(P:Program):List Deferred->(Wd->Prop)->Wd->Prop
 | [],K,w=>K w
 | { target := .fn (.func f) cap,args:=args }::ds,K,w=>retD P f (args++cap) (leaveW P ds K) w
 | _::_,_,_=>False
section sound
variable {P:Program} {n pk:Nat}
theorem Rep.push{a:Act}{ρ:Env}{D:List Deferred}(h:Rep D n a ρ)(d:Deferred):Rep (d::D) n (Act.put { a with defers:=d::a.defers } none undef) ρ:=⟨by show d::a.defers=_; rw [h.defers],h.size,h.get⟩
theorem dfO_sound{o:Oper}{ρ:Env}{a:Act}{D:List Deferred}{d:Deferred}{w:Wd}(hr:Rep D n a ρ)(h:dfO o ρ=some d):o.guard=none/\o.dst=none/\(execOp a.eval o).run P w = .ok (.defer d) w:=by
 unfold dfO at h
 split at h
 .rename_i c h1 h2 h3
  split at h
  .rename_i f hf
   split at h
   .rename_i fn first cap hv
    injection h with h; subst h
    refine ⟨h1,h2,?_⟩
    have e:a.eval=ev ρ:=hr.eval
    rw [e]
    simp only [execOp,h3,resolve,hf,hv,Deferred.ofValue,pure_bind,Sem.run_pure]
   .cases h
  .cases h
 .cases h
theorem dfW_sound{ops:Array Oper}{D:List Deferred}{K:Env->Deferred->Wd->Prop}{Q:Exit->Act->Wd->Prop}(hq:∀ ρ d w a,K ρ d w->Rep (d::D) n a ρ->Q .normal a w):∀(l pre:List Oper)(ρ:Env)(w:Wd)(a:Act),ops.toList=pre++l ->
  (∀ o∈l,dstOk n o.dst=true)->dfW P pk NoX ops pre.length l ρ K w->Rep D n a ρ->wpOps P ops Q (List.range' pre.length l.length) a w
 | [],_,_,_,_,_,_,h,_=>h.elim
 | [o],pre,ρ,w,a,he,hd,h,hr=>by
  have hi:ops[pre.length]? = some o:=by rw [<- Array.getElem?_toList,he]; simp
  simp only [dfW] at h
  cases hdo:dfO o ρ with
  | none=>rw [hdo] at h; exact h.elim
  | some d =>
   rw [hdo] at h
   obtain ⟨h1,h2,h3⟩:=dfO_sound (P:=P) (w:=w) hr hdo
   simp only [List.length_cons,List.length_nil,List.range'_succ,List.range'_zero,wpOps,hi]
   have hw:Region.wanted o (yielded ops a.tmps)=true:=by simp [Region.wanted,h1]
   rw [if_pos hw]
   left
   simp only [Oper.wp,Oper.upon,h3,h2]
   exact hq ρ d w _ h (hr.push d)
 | o::o2::l,pre,ρ,w,a,he,hd,h,hr=>by
  have hi:ops[pre.length]? = some o:=by rw [<- Array.getElem?_toList,he]; simp
  have next:∀ v w',dfW P pk NoX ops (pre.length+1) (o2::l) (putO ρ o.dst v) K w'->wpOps P ops Q (List.range' (pre.length+1) (o2::l).length) (a.put o.dst v) w':=fun v w' h'=>by
   have:=dfW_sound (ops:=ops) hq (o2::l) (pre++[o]) (putO ρ o.dst v) w' (a.put o.dst v) (by simp [he]) (fun x hx=>hd x (by simp at hx ⊢; exact .inr hx)) (by simpa using h') (hr.putO (hd o (by simp)) v)
   simpa using this
  simp only [dfW] at h
  rw [List.length_cons,List.range'_succ]
  simp only [wpOps,hi,hr.wanted]
  rcases gW_sound h with ⟨hw,hA⟩ | ⟨hw,hB⟩
  .rw [if_pos hw]
   refine .inl (opok_wp (X:=NoX) (K:=fun v w'=>splitW (isG ops pre.length) v fun v=>dfW P pk NoX ops (pre.length+1) (o2::l) (putO ρ o.dst v) K w') ?_ (fun v w' h'=>next v w' (splitW_sound (K:=fun v=>dfW P pk NoX ops (pre.length+1) (o2::l) (putO ρ o.dst v) K w') h')) (fun c w' h=>h.elim))
   rw [hr.eval]; exact opW_sound hA
  .rw [if_neg (by simp [hw])]
   exact next _ _ hB
def DpE(n:Nat)(fin:List Deferred->Env->Wd->Prop):Exit->Act->Wd->Prop
 | .normal,a,w=>∃ D ρ,Rep D n a ρ/\fin D ρ w
 | .ret,a,w=>∃ D ρ,Rep D n a ρ/\fin D ρ w
 | _,_,_=>False
theorem dp_sound{fin:List Deferred->Env->Wd->Prop}:∀(s:Dp)(c:Code)(D:List Deferred)(ρ:Env)(w:Wd)(a:Act),dpOk P n s c=true->wpDp P pk s c D fin ρ w->Rep D n a ρ->c.wp P (DpE n fin) a w:=by
 intro s
 induction s with
 | last ann =>
  intro c D ρ w a hok h hr
  refine wp_mono (wpIn_wide.1 (wpc_sound (ro:=none) (n:=n) (D:=D) ann c _ ρ w a (.inl rfl) hok h hr)) fun e a' w' hp=>?_
  cases e with
  | normal=>obtain ⟨ρ',r',q',_⟩:=hp; exact ⟨D,ρ',r',q'⟩
  | ret=>obtain ⟨ρ',r',q',_⟩:=hp; exact ⟨D,ρ',r',q'⟩
  | panic c=>exact hp.1.elim
  | outgrown=>exact hp.elim
  | exit i=>obtain ⟨_,_,q',_⟩:=hp; exact q'.elim
  | goto i=>obtain ⟨_,_,q',_⟩:=hp; exact q'.elim
 | next ann s ih =>
  intro c D ρ w a hok h hr
  cases c <;> simp only [wpDp] at h
  rename_i c1 c2
  simp only [dpOk,Bool.and_eq_true] at hok
  refine wp_seq (wp_mono (wpIn_wide.1 (wpc_sound (ro:=none) (n:=n) (D:=D) ann c1 _ ρ w a (.inl rfl) hok.1 h hr)) fun e a' w' hp=>?_)
  cases e with
  | normal=>obtain ⟨ρ',r',q',_⟩:=hp; exact ih c2 D ρ' w' a' hok.2 q' r'
  | ret=>obtain ⟨ρ',r',q',_⟩:=hp; exact ⟨D,ρ',r',q'⟩
  | panic c=>exact hp.1.elim
  | outgrown=>exact hp.elim
  | exit i=>obtain ⟨_,_,q',_⟩:=hp; exact q'.elim
  | goto i=>obtain ⟨_,_,q',_⟩:=hp; exact q'.elim
 | dfr s ih =>
  intro c D ρ w a hok h hr
  cases c <;> try exact h.elim
  rename_i c1 c2
  cases c1 <;> try exact h.elim
  rename_i id ops d
  cases d with
  | true=>exact h.elim
  | false =>
  simp only [dpOk,Bool.and_eq_true,List.all_eq_true] at hok
  refine wp_seq (wp_region ?_)
  have:=dfW_sound (pk:=pk) (n:=n) (ops:=ops) (D:=D) (Q:=Exit.then (c2.wp P (DpE n fin)) (DpE n fin)) (fun ρ d w a hk hr'=>ih c2 (d::D) ρ w a hok.2 hk hr') ops.toList [] ρ w a rfl hok.1 h hr
  simpa [List.range_eq_range'] using this
theorem leaveW_sound{fn:Func}{tmps:Array Value}{R:Ending->Wd->Prop}:∀(D:List Deferred)(w:Wd),leaveW P D (fun w=>∃ v,(results fn tmps).run P w = .ok v w/\R (.returned v) w) w->Leaves P fn tmps R D .returning w
 | [],_,h=>h
 | { target := .fn (.func f) cap,args:=args }::ds,w,h=>by
  obtain ⟨⟨fn,hf,hc⟩,h⟩:=h
  refine leaves_cons (by simp) (f:=f) (args:=args++cap) (callFunc_run hf hc) (CallsD.mono h ?_)
  rintro _ _ w' ⟨⟨v,rfl⟩,rfl,h'⟩
  exact leaveW_sound ds w' h'
 | { target := .fn (.method _) _,args:=_ }::_,_,h=>h.elim
 | { target := .nil,args:=_ }::_,_,h=>h.elim
theorem retD.mono{f:FuncId}{args:Array Value}{K K':Wd->Prop}{w:Wd}(h:retD P f args K w)(hk:∀ w,K w->K' w):retD P f args K' w :=
 ⟨h.1,CallsD.mono h.2 fun _ _ w' h=>⟨h.1,h.2.1,hk w' h.2.2⟩⟩
theorem leaveW_mono{K K':Wd->Prop}(hk:∀ w,K w->K' w):∀(D:List Deferred)(w:Wd),leaveW P D K w->leaveW P D K' w
 | [],w,h=>hk w h
 | { target := .fn (.func _) _,args:=_ }::ds,_,h=>retD.mono h fun w' h'=>leaveW_mono hk ds w' h'
 | { target := .fn (.method _) _,args:=_ }::_,_,h=>h.elim
 | { target := .nil,args:=_ }::_,_,h=>h.elim
theorem mkD{f:FuncId}{fn:Func}{s:Dp}{args:List Value}{tys:List Ty}{K:CurT tys}{w:Wd}{F C:Prop}(hf:P.funcs[f]? = some fn)
  (hF:F=wpDp P pk s (fn.body.getD .skip) [] (fun D ρ w=>leaveW P D (fun w=>resW P fn.results.toList ρ w (fun vs=>getC tys vs K w)) w) (argEnv args) w) (hc:(fn.body.isSome && Nat.ble args.length fn.ntmps && dpOk P fn.ntmps s (fn.body.getD .skip))=true)
  (hC:callK P f args.toArray tys K w=C) (h:F):C:=by
 simp only [Bool.and_eq_true] at hc
 obtain ⟨c,hb⟩:=Option.isSome_iff_exists.1 hc.1.1
 have e:fn.body.getD .skip=c:=by rw [hb]; rfl
 rw [e] at hF hc
 rw [<- hC]
 have fin:∀{D:List Deferred}{ρ:Env}{a:Act}{w':Wd},Rep D fn.ntmps a ρ->leaveW P D (fun w=>resW P fn.results.toList ρ w (fun vs=>getC tys vs K w)) w'->Leaves P fn a.tmps (fun e w'=>exC tys K (fun vs X=>e = .returned (tup vs)/\X w')) a.defers .returning w':=fun {D ρ a w'} hr hl=>by
  rw [hr.defers]
  refine leaveW_sound D w' (leaveW_mono (fun w2 h2=>?_) D w' hl)
  obtain ⟨vs,h3,h4⟩:=results_run hr h2
  exact ⟨_,h3,exC_mono tys K (fun us X hh=>⟨by rw [hh.1],hh.2⟩) (getC_elim tys vs K w2 h4)⟩
 refine calls_of_wp_defers hf hb (wp_mono (dp_sound s c [] _ w _ hc.2 (hF ▸ h) (args_rep hc.1.2)) fun e a' w' hp=>?_)
 cases e with
 | normal=>obtain ⟨D,ρ,r,q⟩:=hp; exact fin r q
 | ret=>obtain ⟨D,ρ,r,q⟩:=hp; exact fin r q
 | panic c=>exact hp.elim
 | outgrown=>exact hp.elim
 | exit i=>exact hp.elim
 | goto i=>exact hp.elim
theorem mkE{f:FuncId}{fn:Func}{ann:Ann}{args:List Value}{K:Wd->Prop}{w:Wd}{F:Prop}(hf:P.funcs[f]? = some fn)
  (hF:F=wpc P pk NoX ann (fn.body.getD .skip) (retK P [] fn.results.toList K) (argEnv args) w) (hc:(callable fn && Nat.ble args.length fn.ntmps && chk P fn.ntmps ann (fn.body.getD .skip))=true) (h:F):retD P f args.toArray K w:=by
 simp only [Bool.and_eq_true] at hc
 refine ⟨⟨fn,hf,hc.1.1⟩,?_⟩
 obtain ⟨c,hb⟩:=Option.isSome_iff_exists.1 (by have:=hc.1.1; simp only [callable,Bool.and_eq_true] at this; exact this.1)
 have e:fn.body.getD .skip=c:=by rw [hb]; rfl
 rw [e] at hF hc
 refine CallsD.mono (callsD_of_wp (R:=fun e w'=>(∃ v,e = .returned v)/\K w') hf hb (wp_mono (wpIn_wide.1 (wpc_sound (ro:=none) (n:=fn.ntmps) (D:=[]) ann c _ _ w _ (.inl rfl) hc.2 (hF ▸ h) (args_rep hc.1.2))) fun e a' w' hp=>?_)) fun e u w' h=>⟨h.2.1,h.1,h.2.2⟩
 have fin:∀{ρ':Env},Rep [] fn.ntmps a' ρ'->resW P fn.results.toList ρ' w' (fun vs=>getC [] vs K w')->∃ v,(results fn a'.tmps).run P w' = .ok v w'/\(∃ v',Ending.returned v = .returned v')/\K w':=fun hr' hq=>by
  obtain ⟨vs,h1,h2⟩:=results_run hr' hq
  refine ⟨_,h1,⟨_,rfl⟩,?_⟩
  cases vs with
  | nil=>exact h2
  | cons=>exact h2.elim
 cases e with
 | normal=>obtain ⟨ρ',r',q',_⟩:=hp; exact ⟨r'.defers,fin r' q'⟩
 | ret=>obtain ⟨ρ',r',q',_⟩:=hp; exact ⟨r'.defers,fin r' q'⟩
 | panic c=>exact hp.1.elim
 | outgrown=>exact hp.elim
 | exit i=>obtain ⟨_,_,q',_⟩:=hp; exact q'.elim
 | goto i=>obtain ⟨_,_,q',_⟩:=hp; exact q'.elim
theorem mkN{f:FuncId}{fn:Func}{id:Nat}{ops:Array Oper}{rest:Code}{t:Nat}{ann:Ann}{args:List Value}{K:Wd->Prop}{w:Wd}{F:Prop}(hf:P.funcs[f]? = some fn)(hb:fn.body=some (.seq (.region id ops false) rest))(hz:ops.size=1)
  (hops:∀(Q:Exit->Act->List Frame->Wd->Prop)(a:Act)(cs:List Frame)(w:Wd),wpOpsS P ops Q [0] a cs w=(match recoverD cs with
   | some (v,cs')=>Q .normal (a.put (some t) v) cs' w
   | none=>Q .normal (a.put (some t) .nilIface) cs w))
  (hF:F=wpc P pk NoX ann rest (retK P [] fn.results.toList K) (put (argEnv args) t .nilIface) w) (ht:t < fn.ntmps) (hc:(callable fn && (Nat.ble args.length fn.ntmps && chk P fn.ntmps ann rest))=true) (h:F):retD P f args.toArray K w:=by
 simp only [Bool.and_eq_true] at hc
 obtain ⟨hcal,hc⟩:=hc
 refine ⟨⟨fn,hf,hcal⟩,?_⟩
 refine callsD_of_wpS hf hb fun c₀ cs hu=>wpS_seq (wpS_region ?_)
 have hr:recoverD (c₀::cs)=none:=by simp [recoverD,hu]
 rw [hz,show List.range 1=[0] from rfl,hops,hr]
 have rep:Rep [] fn.ntmps (Act.put { tmps:=args.toArray++Array.replicate (fn.ntmps - args.toArray.size) undef,defers:=[] } (some t) .nilIface) (put (argEnv args) t .nilIface):=(args_rep hc.1).put ht _
 refine wpS_of_wp (wp_mono (wpIn_wide.1 (wpc_sound (ro:=none) (n:=fn.ntmps) (D:=[]) ann rest _ _ w _ (.inl rfl) hc.2 (hF ▸ h) rep)) fun e a' w' hp=>?_)
 have fin:∀{ρ':Env},Rep [] fn.ntmps a' ρ'->resW P fn.results.toList ρ' w' (fun vs=>getC [] vs K w')->∃ v,(results fn a'.tmps).run P w' = .ok v w'/\K w':=fun hr' hq=>by
  obtain ⟨vs,h1,h2⟩:=results_run hr' hq
  refine ⟨_,h1,?_⟩
  cases vs with
  | nil=>exact h2
  | cons=>exact h2.elim
 cases e with
 | normal=>obtain ⟨ρ',r',q',_⟩:=hp; obtain ⟨v,h1,h2⟩:=fin r' q'; exact ⟨r'.defers, .returning,by rw [<- hu],v,h1,⟨_,rfl⟩,rfl,h2⟩
 | ret=>obtain ⟨ρ',r',q',_⟩:=hp; obtain ⟨v,h1,h2⟩:=fin r' q'; exact ⟨r'.defers, .returning,by rw [<- hu],v,h1,⟨_,rfl⟩,rfl,h2⟩
 | panic c=>exact hp.1.elim
 | outgrown=>exact hp.elim
 | exit i=>obtain ⟨_,_,q',_⟩:=hp; exact q'.elim
 | goto i=>obtain ⟨_,_,q',_⟩:=hp; exact q'.elim
end sound
end Go.V
