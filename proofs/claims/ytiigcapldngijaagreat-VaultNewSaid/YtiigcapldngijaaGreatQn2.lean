/- Texts for LVaultNew, part 2. -/
import Derived.OrdersHeld
import Derived.KernelRfl
import Derived.Test.YtiigcapldngijaaGreatQn1
namespace Go.V
abbrev Env:=Nat->Value
def put(ρ:Env)(d:Nat)(v:Value):Env:=fun t=>bif Nat.beq t d then v else ρ t
def dt(ρ:Env):Option Nat->Value->Env
 | some d,v=>put ρ d v
 | none,_=>ρ
def ev(ρ:Env):Operand->Value
 | .tmp t=>ρ t
 | .const v=>v
 | .global g=> .pointer (some ⟨g,0,none⟩)
 | .func f=> .func (.func f) #[] #[]
def mix(mask:Nat)(SH ρ:Env):Env:=fun t=>bif Nat.testBit mask t then SH t else ρ t
def m_(l:List Value):Env:=fun t=>l.getD t undef
structure jo(D:List Deferred)(n:Nat)(a:Act)(ρ:Env):Prop where
 defers:a.defers=D
 size:a.tmps.size=n
 get:∀t,a.tmps.getD t undef=ρ t
theorem jo.eval{D:List Deferred}{n:Nat}{a:Act}{ρ:Env}(h:jo D n a ρ):a.eval=ev ρ:=by
 funext x
 cases x with
 | tmp t=>exact h.get t
 | const v=>rfl
 | global g=>rfl
 | func f=>rfl
theorem KG(ρ:Env)(d:Nat)(v:Value):put ρ d v d=v:=by simp[put]
theorem Nl(ρ:Env){d t:Nat}(v:Value)(h:t≠d):put ρ d v t=ρ t:=by
 unfold put
 have:Nat.beq t d=false:=by
  cases hb:Nat.beq t d with
  | false=>rfl
  | true=>exact absurd (Nat.eq_of_beq_eq_true hb) h
 rw[this];rfl
theorem jo.put{D:List Deferred}{n:Nat}{a:Act}{ρ:Env}(h:jo D n a ρ){d:Nat}(hd:d < n)(v:Value):jo D n (a.put (some d) v) (put ρ d v):=by
 refine⟨h.defers,by simp[Act.put,h.size],fun t=>?_⟩;by_cases e:t=d
 .subst e;rw[KG];have:t < a.tmps.size:=by rw[h.size];exact hd
  simp[Act.put,this]
 .rw[Nl _ _ e,<- h.get t];simp[Act.put,Array.getElem?_setIfInBounds_ne (Ne.symm e)]
def qJ(n:Nat):Option Nat->Bool
 | some d=>Nat.blt d n
 | none=>true
theorem jo.dt{D:List Deferred}{n:Nat}{a:Act}{ρ:Env}(h:jo D n a ρ){d:Option Nat}(hd:qJ n d=true)(v:Value):jo D n (a.put d v) (dt ρ d v):=by
 cases d with
 | none=>exact h
 | some d=>exact h.put (by simpa[qJ] using hd) v
structure Sl where
 a:Option Addr
 len:Nat
 cap:Nat
@[reducible] def Sl.v (s:Sl):Value:= .slice s.a s.len s.cap
inductive Sh where
 | int (k:IntKind) | bool | str | ptr | sl | map | val | addr
@[reducible] def Sh.T:Sh->Type
 | .int _=>Int
 | .bool=>Bool
 | .str=>ByteArray
 | .ptr=>Option Addr
 | .sl=>Sl
 | .map=>Option Nat
 | .val=>Value
 | .addr=>Addr
@[reducible] def Sh.mk:(s:Sh)->s.T->Value
 | .int k,n=> .int k n
 | .bool,b=> .bool b
 | .str,s=> .string s
 | .ptr,p=> .pointer p
 | .sl,s=> .slice s.a s.len s.cap
 | .map,r=> .map r
 | .val,v=>v
 | .addr,a=> .pointer (some a)
def Sh.get:(s:Sh)->Value->(s.T->Prop)->Prop
 | .int k,.int k' n,K=>if k=k' then K n else False
 | .bool,.bool b,K=>K b
 | .str,.string s,K=>K s
 | .ptr,.pointer p,K=>K p
 | .sl,.slice a n c,K=>K ⟨a,n,c⟩
 | .map,.map r,K=>K r
 | .val,v,K=>K v
 | .addr,.pointer (some a),K=>K a
 | _,_,_=>False
theorem Sh.Et{s:Sh}{v:Value}{K:s.T->Prop}(h:s.get v K):∃x,v=s.mk x/\K x:=by
 cases s with
 | addr=>
  cases v <;> simp only[Sh.get]at h
  rename_i p
  cases p with
  | none=>exact h.elim
  | some a=>exact⟨a,rfl,h⟩
 | int k=>
  cases v <;> simp only[Sh.get]at h
  split at h
  .rename_i k' n hk;subst hk;exact⟨n,rfl,h⟩
  .exact h.elim
 | _=>cases v <;> simp only[Sh.get]at h <;> first | exact h.elim | exact⟨_,rfl,h⟩
def acb:Value->Sh
 | .int k _=> .int k
 | .bool _=> .bool
 | .string _=> .str
 | .pointer _=> .ptr
 | .slice _ _ _=> .sl
 | .map _=> .map
 | _=> .val
inductive Bb where
 | one (s:Sh)
 | row (k:IntKind) (n:Nat)
def xK(k:IntKind):List Value->Nat
 | .int k' _::r=>if k'=k then xK k r+1 else 0
 | _=>0
def Hr:Nat->List Value->List Bb
 | 0,_=>[]
 | _+1,[]=>[]
 | n+1,.int k z::vs=>if 8<=xK k (.int k z::vs) then .row k (xK k (.int k z::vs))::Hr n ((.int k z::vs).drop (xK k (.int k z::vs))) else .one (.int k)::Hr n vs
 | n+1,v::vs=> .one (acb v)::Hr n vs
inductive Ty where
 | one (s:Sh)
 | agg (l:List Bb)
 | bad
def lW:TypeDesc->Bool
 | .struct _=>true
 | .array _ _=>true
 | _=>false
def wD(P:Program)(t:TypeId):Ty:=
 match P.info? t,P.underlying t with
 | some i,some d=>
  match i.zero with
  | some (.agg zs)=>bif lW d && Nat.beq i.size zs.size then .agg (Hr zs.size zs.toList) else .bad
  | some z=>bif lW d then .bad else .one (acb z)
  | none=> .bad
 | _,_=> .bad
def exS:List Bb->(List Value->Prop)->Prop
 | [],K=>K []
 | .one s::r,K=>∃x:s.T,exS r (fun vs=>K (s.mk x::vs))
 | .row k n::r,K=>∃l:List Int,l.length=n/\exS r (fun vs=>K (l.map (Value.int k)++vs))
def acd:Ty->(Value->Prop)->Prop
 | .one s,K=>∃x:s.T,K (s.mk x)
 | .agg l,K=>exS l (fun vs=>K (.agg vs.toArray))
 | .bad,_=>False
@[reducible] def iZ:List Bb->Type->Type
 | [],X=>X
 | .one s::r,X=>s.T->iZ r X
 | .row _ _::r,X=>List Int->iZ r X
@[reducible] def kx:List Ty->Type
 | []=>Pw
 | .one s::r=>s.T->kx r
 | .agg l::r=>iZ l (kx r)
 | .bad::r=>Value->kx r
def KH{X:Type}:(l:List Bb)->iZ l X->(List Value->X->Prop)->Prop
 | [],K,F=>F [] K
 | .one s::r,K,F=>∃x:s.T,KH r (K x) (fun vs X=>F (s.mk x::vs) X)
 | .row k n::r,K,F=>∃l:List Int,l.length=n/\KH r (K l) (fun vs X=>F (l.map (Value.int k)++vs) X)
def Ib:(l:List Ty)->kx l->(List Value->(Pw)->Prop)->Prop
 | [],K,F=>F [] K
 | .one s::r,K,F=>∃x:s.T,Ib r (K x) (fun vs X=>F (s.mk x::vs) X)
 | .agg l::r,K,F=>KH l K (fun ws K'=>Ib r K' (fun vs X=>F (.agg ws.toArray::vs) X))
 | .bad::r,K,F=>∃v:Value,Ib r (K v) (fun vs X=>F (v::vs) X)
def i_{X:Type}:(l:List Bb)->List Value->iZ l X->(X->Prop)->Prop
 | [],[],K,F=>F K
 | .one s::r,v::vs,K,F=>s.get v (fun x=>i_ r vs (K x) F)
 | .row k n::r,vs,K,F=>∃l:List Int,l.length=n/\vs.take n=l.map (Value.int k)/\i_ r (vs.drop n) (K l) F
 | _,_,_,_=>False
def qk:(l:List Ty)->List Value->kx l->(w:Wd)->Prop
 | [],[],K,w=>K w
 | .one s::r,v::vs,K,w=>s.get v (fun x=>qk r vs (K x) w)
 | .agg l::r,.agg cs::vs,K,w=>i_ l cs.toList K (fun K'=>qk r vs K' w)
 | .bad::r,v::vs,K,w=>qk r vs (K v) w
 | _,_,_,_=>False
theorem oG{X:Type}:∀(l:List Bb)(vs:List Value)(K:iZ l X)(F:X->Prop),i_ l vs K F->KH l K (fun us X=>us=vs/\F X)
 | [],[],K,F,h=>⟨rfl,h⟩
 | [],_::_,K,F,h=>by simp[i_]at h
 | .one s::r,[],K,F,h=>by simp[i_]at h
 | .one s::r,v::vs,K,F,h=>by
  obtain⟨x,rfl,hx⟩:=Sh.Et h;refine⟨x,?_⟩;have:=oG r vs (K x) F hx
  revert this
  generalize K x=K';intro this;exact oz r K' (fun us X hh=>⟨by rw[hh.1],hh.2⟩) this
 | .row k n::r,vs,K,F,h=>by
  obtain⟨l,hl,ht,hx⟩:=h;refine⟨l,hl,?_⟩;refine oz r (K l) (fun us X hh=>⟨by rw[hh.1,<- ht,List.take_append_drop],hh.2⟩) (oG r (vs.drop n) (K l) F hx)
where
 oz {X:Type}:∀(l:List Bb)(K:iZ l X){F G:List Value->X->Prop},(∀vs X,F vs X->G vs X)->KH l K F->KH l K G
 | [],K,F,G,hm,h=>hm _ _ h
 | .one s::r,K,F,G,hm,h=>by obtain⟨x,hx⟩:=h;exact⟨x,oz r (K x) (fun vs X hh=>hm _ _ hh) hx⟩
 | .row k n::r,K,F,G,hm,h=>by obtain⟨l,hl,hx⟩:=h;exact⟨l,hl,oz r (K l) (fun vs X hh=>hm _ _ hh) hx⟩
theorem kA:∀(l:List Ty)(K:kx l){F G:List Value->(Pw)->Prop},(∀vs X,F vs X->G vs X)->Ib l K F->Ib l K G
 | [],K,F,G,hm,h=>hm _ _ h
 | .one s::r,K,F,G,hm,h=>by obtain⟨x,hx⟩:=h;exact⟨x,kA r (K x) (fun vs X hh=>hm _ _ hh) hx⟩
 | .agg l::r,K,F,G,hm,h=>oG.oz l K (fun ws K' hh=>kA r K' (fun vs X hh=>hm _ _ hh) hh) h
 | .bad::r,K,F,G,hm,h=>by obtain⟨x,hx⟩:=h;exact⟨x,kA r (K x) (fun vs X hh=>hm _ _ hh) hx⟩
theorem oA:∀(l:List Ty)(vs:List Value)(K:kx l)(w:Wd),qk l vs K w->Ib l K (fun us X=>us=vs/\X w)
 | [],[],K,w,h=>⟨rfl,h⟩
 | [],_::_,K,w,h=>by simp[qk]at h
 | .one s::r,[],K,w,h=>by simp[qk]at h
 | .one s::r,v::vs,K,w,h=>by
  obtain⟨x,rfl,hx⟩:=Sh.Et h;exact⟨x,kA r (K x) (fun us X hh=>⟨by rw[hh.1],hh.2⟩) (oA r vs (K x) w hx)⟩
 | .agg l::r,[],K,w,h=>by simp[qk]at h
 | .agg l::r,v::vs,K,w,h=>by
  cases v <;> simp only[qk]at h
  rename_i cs;refine oG.oz l K (fun ws K' hh=>?_) (oG l cs.toList K _ h);obtain⟨rfl,hh⟩:=hh;exact kA r K' (fun us X h2=>⟨by rw[h2.1],h2.2⟩) (oA r vs K' w hh)
 | .bad::r,[],K,w,h=>by simp[qk]at h
 | .bad::r,v::vs,K,w,h=>⟨v,kA r (K v) (fun us X hh=>⟨by rw[hh.1],hh.2⟩) (oA r vs (K v) w h)⟩
def fY:List Value->Value
 | [v]=>v
 | vs=> .tuple vs.toArray
def av(P:Program)(f:FuncId)(args:Array Value)(l:List Ty)(K:kx l)(w:Wd):Prop:=
 Calls P f args w (fun e w'=>Ib l K (fun vs X=>e = .returned (fY vs)/\X w'))
end Go.V
