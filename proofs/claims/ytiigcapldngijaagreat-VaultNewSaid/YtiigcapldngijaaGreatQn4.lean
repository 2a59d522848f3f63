/- Texts for LVaultNew, part 4. -/
import Derived.CallsIn
import Derived.Test.YtiigcapldngijaaGreatQn3
namespace Go.V
def World.cK(w:Wd)(b:Nat)(o:Obj):Wd:={ w with heap:=w.heap.setIfInBounds b o }
def World.cL(w:Wd)(o:Obj):Wd:={ w with heap:=w.heap.push o }
structure Gq(w:Wd)(o:Obj)(b:Nat)(w':Wd):Prop where
 at_:b=w.heap.size
 is:w'=World.cL w o
def mG(w:Wd)(b:Nat)(o:Obj)(w':Wd):Prop:=w'=World.cK w b o
def au(w:Wd)(o:Obj)(K:Nat->Pw):Prop:=∀b w',Gq w o b w'->K b w'
def Uf(fz:Nat×Nat)(off n:Nat):Prop:=fz.2<=off∨off+n<=fz.1∨fz.2<=fz.1
def aH(w:Wd)(a:Addr)(v:Value)(K:Pw):Prop:=
 ∃cs T fz,w.heap[a.block]? = some (.cells cs T fz)/\a.spot=none/\a.off < cs.size/\Uf fz a.off 1/\cB v=true/\
  ∀w',mG w a.block (.cells ⟨cs.toList.set a.off v⟩ T fz) w'->K w'
def bO(w:Wd)(a:Addr)(vs:List Value)(K:Pw):Prop:=
 ∃cs T fz,w.heap[a.block]? = some (.cells cs T fz)/\a.spot=none/\a.off+vs.length<=cs.size/\Uf fz a.off vs.length/\(∀v∈vs,cB v=true)/\
  ∀w',mG w a.block (.cells ⟨setL cs.toList a.off vs⟩ T fz) w'->K w'
abbrev bQ(w:Wd)(a:Addr)(n:Nat)(l:List Value)(K:Pw):Prop:=l.length=n/\bO w a l K
abbrev A0(b:Nat):Addr:=⟨b,0,none⟩
def de(C:Addr->Value->Prop)(a:Addr)(i:Nat)(k:IntKind)(l:List Int):Prop:=∀j (h:j < l.length),C (a.add (i+j)) (.int k l[j])
def Wa(C:Addr->Value->Prop)(a:Addr):List Bb->Nat->(List Value->Prop)->Prop
 | [],_,K=>K []
 | .one s::r,i,K=>∃x:s.T,C (a.add i) (s.mk x)/\Wa C a r (i+1) (fun vs=>K (s.mk x::vs))
 | .row k n::r,i,K=>∃l:List Int,l.length=n/\de C a i k l/\Wa C a r (i+n) (fun vs=>K (l.map (Value.int k)++vs))
def KL(C:Addr->Value->Prop)(P:Program)(t:TypeId)(x:Value)(K:Value->Prop):Prop:=
 match x with
 | .pointer (some a)=>match wD P t with
  | .one s=>∃y:s.T,C a (s.mk y)/\K (s.mk y)
  | .agg l=>Wa C a l 0 (fun vs=>K (.agg vs.toArray))
  | .bad=>False
 | _=>False
def Cell(w:Wd)(a:Addr)(v:Value):Prop:=w.cell? a=some v
def aj(S:Pw)(a:Addr)(v:Value):Prop:=∀w,S w->w.cell? a=some v
def xN(P:Program)(t:TypeId)(x v:Value)(K:Pw)(w:Wd):Prop:=
 match x,P.info? t with
 | .pointer (some a),some i=>bif Bc P t then(bif Nat.beq i.size 1 then aH w a v K else False) else match v with
  | .agg cs=>cs.toList.length=i.size/\bO w a cs.toList K
  | v=>bif Nat.beq i.size 1 then aH w a v K else False
 | _,_=>False
def Z8(C:Addr->Value->Prop)(s:Sl)(bs:List UInt8):Prop:=
 bs.length=s.len/\(∀i (h:i < bs.length),∃a n,s.a=some a/\C (a.add i) (.int .u8 n)/\UInt8.ofNat n.toNat=bs[i])/\(s.a=none->bs=[])
def mH(C:Addr->Value->Prop)(s:Sl)(K:ByteArray->Prop):Prop:=∃bs:List UInt8,Z8 C s bs/\K ⟨bs.toArray⟩
def NA(P:Program)(src dst:TypeId):Bool:=
 match P.underlying src,P.underlying dst with
 | some (.slice e),some .string=>match P.underlying e with
  | some (.int .u8)=>true
  | _=>false
 | _,_=>false
def Pq(C:Addr->Value->Prop)(P:Program)(src dst:TypeId)(x:Value)(K:Value->Prop):Prop:=
 bif NA P src dst then match x with
  | .slice a n c=>mH C ⟨a,n,c⟩ fun s=>K (.string s)
  | _=>False
 else Pp P src dst x K
def Qr:List Ty->(List Value->Prop)->Prop
 | [],F=>F []
 | t::ts,F=>acd t (fun v=>Qr ts (fun vs=>F (v::vs)))
def aci(P:Program)(f:FuncId)(args:List Value)(tys:List Ty)(K:Value->Pw)(w:Wd):Prop:=
 Calls P f args.toArray w (fun e w'=>Qr tys (fun vs=>e = .returned (fY vs)/\K (fY vs) w'))
abbrev PX:=List PanicEntry->Pw
def acj(P:Program)(f:FuncId)(args:List Value)(tys:List Ty)(K:Value->Pw)(X:PX)(w:Wd):Prop:=
 Calls P f args.toArray w (fun e w'=>(Qr tys (fun vs=>e = .returned (fY vs)/\K (fY vs) w'))∨∃c,e = .panicked c/\X c w')
def mI (fn : Func) : Bool:= fn.body.isSome && !(fn.name == "runtime.NumGoroutine")
def tY(P:Program)(l:List Ty)(s:Sem Value)(K:Value->Pw)(w:Wd):Prop:=Qr l (fun vs=>∃w',s.run P w = .ok (fY vs) w'/\K (fY vs) w')
def Z9(P:Program)(s:Sem Unit)(K:Value->Pw)(w:Wd):Prop:=∃w',s.run P w = .ok () w'/\K undef w'
def aeL(P:Program)(l:List Ty)(s:Sem Next)(K:Value->Pw)(w:Wd):Prop:=Qr l (fun vs=>∃w',s.run P w = .ok (.value (fY vs)) w'/\K (fY vs) w')
def Yp(P:Program)(pk:Nat)(n:FuncId)(args:List Value)(K:Value->Pw)(X:PX)(w:Wd):Prop:=
 match P.funcs[n]? with
 | some fn=>bif mI fn then(bif Nat.testBit pk n then acj P n args (fn.resultTypes.toList.map (wD P)) K X w else aci P n args (fn.resultTypes.toList.map (wD P)) K w)
  else aeL P (fn.resultTypes.toList.map (wD P)) (callFunc n args.toArray) K w
 | none=>False
def uE(P:Program)(t:TypeId):List Ty:=match P.underlying t with
 | some (.tuple ts)=>ts.toList.map (wD P)
 | _=>[wD P t]
def SN{X:Type}:(l:List Bb)->(List Value->X)->iZ l X
 | [],F=>F []
 | .one s::r,F=>fun x=>SN r (fun vs=>F (s.mk x::vs))
 | .row k _::r,F=>fun l=>SN r (fun vs=>F (l.map (Value.int k)++vs))
def Bg:(l:List Ty)->List Value->(Value->Pw)->kx l
 | [],acc,K=>fun w=>K (fY acc) w
 | .one s::r,acc,K=>fun x=>Bg r (acc++[s.mk x]) K
 | .agg l::r,acc,K=>SN l (fun vs=>Bg r (acc++[.agg vs.toArray]) K)
 | .bad::r,acc,K=>fun v=>Bg r (acc++[v]) K
def KM(l:List Ty)(K:kx l)(X:PX)(e:Ending)(w':Wd):Prop:=Ib l K (fun vs Y=>e = .returned (fY vs)/\Y w')∨∃c,e = .panicked c/\X c w'
def KN(P:Program)(rd:Bool)(s:Sem Next)(w:Wd)(R:Ending->Pw):Prop:=match s.run P w with
 | .ok (.enter f as) w'=>Calls P f as w' R
 | .ok (.round l f tmps a b) w'=>rd=true/\RoundIn Fence.wide 0 P l f tmps a b w' R
 | _=>False
def KO(fv:Value)(args:List Value):Sem Next:=do let d<- Deferred.ofValue fv args.toArray;invoke d.target d.args
def aC(P:Program)(rd:Bool)(fv:Value)(args:List Value)(l:List Ty)(K:kx l)(X:PX)(w:Wd):Prop:=KN P rd (KO fv args) w (KM l K X)
def EA(P:Program)(recv:Value)(m:String)(args:List Value)(l:List Ty)(K:kx l)(X:PX)(w:Wd):Prop:=KN P false (invoke (.fn (.method m) #[]) (#[recv]++args.toArray)) w (KM l K X)
def bj(P:Program)(t t':TypeId)(s:Sl)(x:Value)(K:Sl->Pw)(w:Wd):Prop:=
 ∃s' w',(∀ty,(Builtin.append_ #[t,t'] ty #[s.v,x]).run P w = .ok s'.v w')/\K s' w'
def lN(P:Program)(t t':TypeId)(s:Sl)(x:Value)(K:Int->Pw)(w:Wd):Prop:=
 ∃n w',(∀ty,(Builtin.copy_ #[t,t'] ty #[s.v,x]).run P w = .ok (.int .i64 n) w')/\K n w'
def ng(ρ:Env)(n sz:Nat):Nat->List (Nat×Operand)->Option (List Value)
 | i,[]=>bif Nat.beq i n then some [] else none
 | i,(j,x)::r=>bif Nat.beq i j && Nat.beq (cV (ev ρ x)).length sz then(ng ρ n sz (i+1) r).map (cV (ev ρ x)++·) else none
def EB(ρ:Env)(n sz:Nat):Nat->List (Nat×Operand)->(List Value->Prop)->Prop
 | i,[],K=>bif Nat.beq i n then K [] else False
 | i,(j,x)::r,K=>bif Nat.beq i j then(cV (ev ρ x)).length=sz/\EB ρ n sz (i+1) r (fun cs=>K (cV (ev ρ x)++cs)) else False
def Bh(P:Program)(t:TypeId)(n:Nat)(ρ:Env)(parts:List (Nat×Operand))(K:Value->Pw)(w:Wd):Prop:=
 match P.underlying t with
 | some (.slice e)=>match P.info? e with
  | some ie=>bif Nat.ble (n * ie.size) 16777216 then(bif Qp P e then(bif ie.zero.isSome then EB ρ n ie.size 0 parts fun cs=>au w (.cells cs.toArray e) fun b w'=>K (.slice (some ⟨b,0,none⟩) n n) w' else False) else match ie.zero,ng ρ n ie.size 0 parts with
   | some _,some cs=>au w (.cells cs.toArray e) fun b w'=>K (.slice (some ⟨b,0,none⟩) n n) w'
   | _,_=>False)
   else False
  | none=>False
 | _=>False
def SO(P:Program)(t:TypeId)(K:Value->Pw)(w:Wd):Prop:=
 match P.info? t with
 | some i=>match i.zero with
  | some z=>au w (.cells (cV z).toArray t) fun b w'=>K (.pointer (some ⟨b,0,none⟩)) w'
  | none=>False
 | none=>False
def xO(w:Wd)(e:TypeId)(zs:List Value)(bytes:Nat)(l c:Int)(K:Sl->Pw):Prop:=
 0<=l/\l<=c/\c<=9223372036854775807/\bytes * c<=281474976710656/\
  au w (.cells (List.replicate c.toNat zs).flatten.toArray e) fun b w'=>K ⟨some ⟨b,0,none⟩,l.toNat,c.toNat⟩ w'
def SP(P:Program)(t:TypeId)(l c:Value)(K:Value->Pw)(w:Wd):Prop:=
 match P.underlying t with
 | some (.slice e)=>match P.info? e with
  | some ie=>match ie.zero,l,c with
   | some z,.int _ l,.int _ c=>bif Nat.beq (cV z).length ie.size && Nat.blt 0 ie.size then xO w e (cV z) ie.bytes l c fun s w'=>K (.slice s.a s.len s.cap) w' else False
   | _,_,_=>False
  | none=>False
 | _=>False
def Hv(P:Program)(src dst:TypeId):Bool:=
 match P.underlying src,P.underlying dst with
 | some .string,some (.slice e)=>match P.underlying e with
  | some (.int .u8)=>true
  | _=>false
 | some (.slice _),some (.slice _)=>true
 | _,_=>false
def SQ(v:Value)(X:PX)(w:Wd):Prop:=match v with
 | .iface t v=>X [{ v:= .iface t v,recovered:=false }] w
 | _=>False
def KQ(P:Program)(src dst:TypeId):Bool:=
 match P.underlying src,P.underlying dst with
 | some (.pointer _),some .unsafePointer=>true
 | some .unsafePointer,some (.pointer _)=>true
 | _,_=>false
def SR(P:Program)(t:TypeId):Bool:=match P.underlying t with
 | some (.pointer _)=>true
 | some (.interface _)=>true
 | _=>false
def xP(op:BinOp)(t:TypeId)(x y:Operand)(a b:Value):Sem Value:=do
 eqGuard op t x y a b
 binOp op t a b
def SS(P:Program):List TypeId->Bool
 | [t]=>match P.underlying t with
  | some (.map _ _)=>true
  | _=>false
 | _=>false
def Il(P:Program)(t:TypeId):Bool:=match P.underlying t with
 | some (.array _ _)=>true
 | _=>false
def ack(P:Program)(s:Sem Value)(K:Value->Pw)(w:Wd):Prop:=
 (∃w',s.run P w = .ok (.tuple #[.bool false]) w'/\K (.tuple #[.bool false]) w')∨∃k v w',s.run P w = .ok (.tuple #[.bool true,k,v]) w'/\K (.tuple #[.bool true,k,v]) w'
def aeM(P:Program)(s:Sem Value)(K:Value->Pw)(w:Wd):Prop:=∃k v w',s.run P w = .ok (.tuple #[k,v]) w'/\K (.tuple #[k,v]) w'
def VF(P:Program)(pk:Nat)(X:PX)(rd:Bool)(o:Oper)(ρ:Env)(K:Value->Pw)(w:Wd):Prop:=
 match o.op with
 | .lookup t x i ck=>tY P (bif ck then(uE P o.type) else[wD P o.type]) (Instr.lookup t (ev ρ x) (ev ρ i) ck) K w
 | .mapUpdate t m k v=>Z9 P (Instr.mapUpdate t (ev ρ m) (ev ρ k) (ev ρ v)) K w
 | .insert t m k v=>Z9 P (Instr.mapUpdate t (ev ρ m) (ev ρ k) (ev ρ v)) K w
 | .makeMap _ none=>au w (.map #[] 0) fun b w'=>K (.map (some b)) w'
 | .range t x=>tY P [.one .ptr] (Instr.range t (ev ρ x)) K w
 | .next it isS=>ack P (Instr.next (ev ρ it) isS o.type) K w
 | .entry it=>aeM P (Instr.entry (ev ρ it)) K w
 | .typeAssert x xt at_ ck=>tY P (bif ck then(uE P o.type) else[wD P o.type]) (Instr.typeAssert (ev ρ x) xt at_ ck) K w
 | .panic x=>SQ (ev ρ x) X w
 | .load t x=>KL (Cell w) P t (ev ρ x) (fun v=>K v w)
 | .index t x i=>bif Il P t then tY P [wD P o.type] (Instr.index t (ev ρ x) (ev ρ i)) K w else R_ P o ρ (fun v=>K v w)
 | .build t parts=>bif Il P t then tY P [wD P o.type] (Instr.build t (parts.map fun(i,x)=>(i,ev ρ x))) K w else R_ P o ρ (fun v=>K v w)
 | .store t x v=>xN P t (ev ρ x) (ev ρ v) (fun w'=>K undef w') w
 | .alloc t=>SO P t K w
 | .box t x=>bif Bc P t then cB (ev ρ x)=true/\au w (.cells [ev ρ x].toArray t) fun b w'=>K (.pointer (some ⟨b,0,none⟩)) w' else au w (.cells (cV (ev ρ x)).toArray t) fun b w'=>K (.pointer (some ⟨b,0,none⟩)) w'
 | .buildSlice t n parts=>Bh P t n ρ parts.toList K w
 | .makeSlice t l c=>SP P t (ev ρ l) (ev ρ c) K w
 | .convert s d x=>bif Hv P s d then tY P [.one .sl] (convert s d (ev ρ x)) K w else bif KQ P s d then tY P [.one .ptr] (convert s d (ev ρ x)) K w else Pq (Cell w) P s d (ev ρ x) (fun v=>K v w)
 | .binOp op t x (.tmp y) _=>bif SR P t then tY P [.one .bool] (xP op t x (.tmp y) (ev ρ x) (ρ y)) K w else R_ P o ρ (fun v=>K v w)
 | .binOp op t x (.const .nilFunc) _=>tY P [.one .bool] (xP op t x (.const .nilFunc) (ev ρ x) .nilFunc) K w
 | .binOp op t x (.const (.map none)) _=>tY P [.one .bool] (xP op t x (.const (.map none)) (ev ρ x) (.map none)) K w
 | .call ⟨.value (.func n),args,_⟩=>Yp P pk n (args.toList.map (ev ρ)) K X w
 | .call ⟨.value f,args,_⟩=>aC P rd (ev ρ f) (args.toList.map (ev ρ)) (uE P o.type) (Bg (uE P o.type) [] K) X w
 | .call ⟨.invoke r m,args,_⟩=>EA P (ev ρ r) m (args.toList.map (ev ρ)) (uE P o.type) (Bg (uE P o.type) [] K) X w
 | .call ⟨.builtin .delete,args,tys⟩=>tY P [] (Builtin.delete_ tys o.type (args.map (ev ρ))) K w
 | .call ⟨.builtin .clear,args,tys⟩=>tY P [] (Builtin.clear_ tys o.type (args.map (ev ρ))) K w
 | .call ⟨.builtin .unsafeSliceData,args,tys⟩=>tY P [.one .ptr] (Builtin.unsafeSliceData_ tys o.type (args.map (ev ρ))) K w
 | .call ⟨.builtin .unsafeString,args,tys⟩=>tY P [.one .str] (Builtin.unsafeString_ tys o.type (args.map (ev ρ))) K w
 | .call ⟨.builtin .max,args,tys⟩=>bif Nat.beq args.toList.length 2 then R_ P o ρ (fun v=>K v w) else tY P [.one (.int .i64)] (Builtin.max_ tys o.type (args.map (ev ρ))) K w
 | .call ⟨.builtin .len,args,tys⟩=>bif SS P tys.toList then tY P [.one (.int .i64)] (Builtin.len_ tys o.type (args.map (ev ρ))) K w else R_ P o ρ (fun v=>K v w)
 | .call ⟨.builtin .append,args,tys⟩=>match args.toList,tys.toList with
  | [s,x],[t,t']=>match ev ρ s with
   | .slice a n c=>bj P t t' ⟨a,n,c⟩ (ev ρ x) (fun s' w'=>K (.slice s'.a s'.len s'.cap) w') w
   | _=>False
  | _,_=>False
 | .call ⟨.builtin .copy,args,tys⟩=>match args.toList,tys.toList with
  | [s,x],[t,t']=>match ev ρ s with
   | .slice a n c=>lN P t t' ⟨a,n,c⟩ (ev ρ x) (fun n w'=>K (.int .i64 n) w') w
   | _=>False
  | _,_=>False
 | _=>R_ P o ρ (fun v=>K v w)
def SU(P:Program)(S:Pw)(o:Oper)(ρ:Env)(K:Value->Prop):Prop:=
 match o.op with
 | .load t x=>KL (aj S) P t (ev ρ x) K
 | .convert s d x=>Pq (aj S) P s d (ev ρ x) K
 | _=>R_ P o ρ K
def lY(P:Program)(X:PX)(rd:Bool)(o:Oper)(ε:Operand->Value)(K:Value->Pw)(w:Wd):Prop:=
 match(execOp ε o).run P w with
 | .ok (.value v) w'=>K v w'
 | .ok .skip w'=>K undef w'
 | .ok (.enter f args) w'=>Calls P f args w' (fun e Ea=>(∃v,e = .returned v/\K v Ea)∨∃c,e = .panicked c/\X c Ea)
 | .ok (.round l f tmps a b) w'=>rd=true/\RoundIn Fence.wide 0 P l f tmps a b w' (fun e Ea=>(∃v,e = .returned v/\K v Ea)∨∃c,e = .panicked c/\X c Ea)
 | .halt (.panic v) w'=>X [{ v,recovered:=false }] w'
 | _=>False
section sound
variable {P:Program} {w:Wd}
theorem run_load{a:Addr}{v:Value}(h:w.cell? a=some v):(load a).run P w = .ok v w:=by
 simp[load,Sem.run,h]
theorem nL{a:Addr}:∀(vs:List Value)(i:Nat)(acc:Array Value),(∀j (h:j < vs.length),w.cell? (a.add (i+j))=some vs[j])->
  (loadCellsFrom a i vs.length acc).run P w = .ok (acc++vs.toArray) w
 | [],i,acc,_=>by simp[loadCellsFrom]
 | v::vs,i,acc,h=>by
  have h0:=h 0 (by simp);simp only[Nat.add_zero,List.getElem_cons_zero]at h0
  have ih:=nL vs (i+1) (acc.push v) (fun j hj=>by
   have:=h (j+1) (by simp;omega)
   simpa[Nat.add_assoc,Nat.add_comm 1 j] using this)
  simp only[List.length_cons,loadCellsFrom,Sem.run_bind,run_load h0,Result.andThen_ok,ih];congr 1;apply Array.toList_inj.1;simp
def rT:List Bb->Nat
 | []=>0
 | .one _::r=>rT r+1
 | .row _ n::r=>rT r+n
theorem Hw(k:IntKind):∀l:List Value,xK k l<=l.length
 | []=>by simp[xK]
 | v::r=>by
  have:=Hw k r
  cases v <;> simp only[xK,List.length_cons] <;> first | omega | (split <;> omega)
theorem pL:∀(n:Nat)(l:List Value),l.length<=n->rT (Hr n l)=l.length
 | 0,l,h=>by simp at h;subst h;rfl
 | n+1,[],_=>rfl
 | n+1,v::vs,h=>by
  have hvs:vs.length<=n:=by simp at h;omega
  cases v <;> simp only[Hr,rT,pL n vs hvs,List.length_cons]
  rename_i k z;split
  .rename_i h8;have hr:=Hw k (.int k z::vs);simp only[List.length_cons]at hr;rw[rT,pL n _ (by simp;omega)];simp;omega
  .rw[rT,pL n vs hvs]
theorem xQ{C:Addr->Value->Prop}{a:Addr}:∀(l:List Bb)(i:Nat)(K:List Value->Prop),Wa C a l i K->
  ∃vs,vs.length=rT l/\(∀j (h:j < vs.length),C (a.add (i+j)) vs[j])/\K vs
 | [],i,K,h=>⟨[],rfl,by simp,h⟩
 | .one s::r,i,K,h=>by
  obtain⟨x,hx,h⟩:=h;obtain⟨vs,h1,h2,h3⟩:=xQ r (i+1) _ h;refine⟨s.mk x::vs,by simp[rT,h1],?_,h3⟩;intro j hj
  cases j with
  | zero=>exact hx
  | succ j=>
   have:=h2 j (by simp at hj;omega);simp only[List.getElem_cons_succ]
   rwa [show i+(j+1)=i+1+j from by omega]
 | .row k n::r,i,K,h=>by
  obtain⟨l,hl,hc,h⟩:=h;obtain⟨vs,h1,h2,h3⟩:=xQ r (i+n) _ h;refine⟨l.map (Value.int k)++vs,by simp[rT,h1,hl];omega,?_,h3⟩;intro j hj;by_cases wE:j < l.length
  .rw[List.getElem_append_left (by simpa using wE)];simpa using hc j wE
  .rw[List.getElem_append_right (by simpa using wE)];have:=h2 (j - l.length) (by simp at hj;omega);simp only[List.length_map]
   rwa [show i+n+(j - l.length)=i+j from by omega]at this
theorem uF{C:Addr->Value->Prop}{t:TypeId}{x:Value}{K:Value->Prop}(h:KL C P t x K) :
  ∃v,(∀w:Wd,(∀a v,C a v->w.cell? a=some v)->(Instr.loadAt t x).run P w = .ok v w)/\K v:=by
 unfold KL at h;split at h
 .rename_i a;unfold wD at h;split at h
  .rename_i s heq;obtain⟨y,hy,hk⟩:=h;refine⟨_,fun w hc=>?_,hk⟩;split at heq
   .rename_i i d hi hd;split at heq
    .rename_i zs hz;cases hb:(lW d && Nat.beq i.size zs.size) <;> rw[hb]at heq <;> cases heq
    .rename_i z hz
     cases hb:lW d with
     | true=>rw[hb]at heq;cases heq
     | false=>simp only[Instr.loadAt,Instr.sureAddr,loadVar,Sem.run_bind,Sem.run_pure,Result.andThen_ok,Bd hd,hb,Bool.false_eq_true,if_false,run_load (hc _ _ hy)]
    .cases heq
   .cases heq
  .rename_i l heq;obtain⟨vs,h1,h2,hk⟩:=xQ l 0 _ h;refine⟨_,fun w hc=>?_,hk⟩;split at heq
   .rename_i i d hi hd;split at heq
    .rename_i zs hz
     cases hb:(lW d && Nat.beq i.size zs.size) with
     | false=>rw[hb]at heq;cases heq
     | true=>
      rw[hb]at heq;simp only[cond_true,Ty.agg.injEq]at heq;simp only[Bool.and_eq_true,Nat.beq_eq]at hb;have hlen:vs.length=i.size:=by rw[h1,<- heq,pL _ _ (by simp),Array.length_toList,hb.2]
      have:=nL (P:=P) (w:=w) (a:=a) vs 0 #[] (fun j hj=>hc _ _ (h2 j hj));rw[hlen]at this;simp only[Instr.loadAt,Instr.sureAddr,loadVar,Sem.run_bind,Sem.run_pure,Result.andThen_ok,Bd hd,hb.1,if_true,bL hi,loadCells,this];simp
    .rename_i z hz;cases hb:lW d <;> rw[hb]at heq <;> cases heq
    .cases heq
   .cases heq
  .exact h.elim
 .exact h.elim
theorem run_store{a:Addr}{v old:Value}(hv:cB v=true)(hc:w.cell? a=some old)(hf:w.frozen? a=false) :
  (store a v).run P w = .ok () (w.setCell a v):=by
 cases v <;> simp only[cB,Bool.false_eq_true]at hv <;> simp[store,Sem.run,hc,hf]
theorem Hx{b off:Nat}{cs:Array Value}{T:TypeId}{fz:Nat×Nat}(hb:w.heap[b]? = some (.cells cs T fz))(hu:fz.2<=off∨off+1<=fz.1∨fz.2<=fz.1) :
  w.frozen? ⟨b,off,none⟩=false:=by
 simp only[World.frozen?,hb];obtain⟨lo,hi⟩:=fz;simp at hu ⊢;omega
theorem EC{b off:Nat}{cs:Array Value}{T:TypeId}{fz:Nat×Nat}{v:Value}(hb:w.heap[b]? = some (.cells cs T fz)) :
  w.setCell ⟨b,off,none⟩ v=World.cK w b (.cells ⟨cs.toList.set off v⟩ T fz):=by
 unfold World.setCell World.cK;congr 1;apply Array.ext_getElem?;intro i;simp only[Array.getElem?_modify,Array.getElem?_setIfInBounds];by_cases e:b=i
 .subst e;obtain⟨aN,_⟩:=Array.getElem?_eq_some_iff.1 hb;simp only[if_true,hb,Option.map_some,aN];congr 2;simp;apply Array.toList_inj.1;simp
 .simp[e]
theorem ay{a:Addr}(h:a.spot=none)(i:Nat):a.add i=⟨a.block,a.off+i,none⟩:=by
 unfold Addr.add;split
 .rename_i e;subst e;cases a;simp_all
 .rfl
theorem Hy{a:Addr}{v:Value}{K:Pw}(h:aH w a v K):∃w',(store a v).run P w = .ok () w'/\K w':=by
 obtain⟨cs,T,fz,hb,hs,ho,hu,hv,hk⟩:=h;refine⟨_,?_,hk _ rfl⟩;have ea:a=⟨a.block,a.off,none⟩:=by cases a;simp_all
 have hc:w.cell? ⟨a.block,a.off,none⟩=some cs[a.off]:=by simp[World.cell?,hb,ho]
 have:=run_store (P:=P) hv hc (Hx hb hu);rw[EC hb]at this;rw[ea];exact this
theorem eP{b:Nat}{o o':Obj}(hb:w.heap[b]? = some o):(World.cK w b o').heap[b]? = some o':=by
 obtain⟨aN,_⟩:=Array.getElem?_eq_some_iff.1 hb;simp[World.cK,aN]
theorem Gr{b:Nat}{o o':Obj}:World.cK (World.cK w b o) b o'=World.cK w b o':=by
 simp[World.cK,Array.setIfInBounds_setIfInBounds]
theorem rU{b:Nat}{T:TypeId}{fz:Nat×Nat}:∀(vs:List Value)(w:Wd)(cs:Array Value)(off i:Nat),w.heap[b]? = some (.cells cs T fz)->
  off+i+vs.length<=cs.size->Uf fz (off+i) vs.length->(∀v∈vs,cB v=true)->
  (storeCells ⟨b,off,none⟩ vs i).run P w = .ok () (World.cK w b (.cells ⟨setL cs.toList (off+i) vs⟩ T fz))
 | [],w,cs,off,i,hb,_,_,_=>by
  have:World.cK w b (.cells ⟨setL cs.toList (off+i) []⟩ T fz)=w:=by
   unfold World.cK setL
   have e:w.heap.setIfInBounds b (.cells ⟨cs.toList⟩ T fz)=w.heap:=by
    apply Array.ext_getElem?;intro j;simp only[Array.getElem?_setIfInBounds];split
    .rename_i e;subst e;obtain⟨aN,he⟩:=Array.getElem?_eq_some_iff.1 hb;simp[aN,he]
    .rfl
   rw[e]
  rw[this];simp[storeCells]
 | v::vs,w,cs,off,i,hb,hl,hu,hv=>by
  simp only[List.length_cons]at hl hu;have ho:off+i < cs.size:=by omega
  have hc:w.cell? ⟨b,off+i,none⟩=some cs[off+i]:=by simp[World.cell?,hb,ho]
  have h1:=run_store (P:=P) (hv v (by simp)) hc (Hx hb (by unfold Uf at hu;omega));rw[EC hb]at h1;have ih:=rU vs (World.cK w b (.cells ⟨cs.toList.set (off+i) v⟩ T fz)) ⟨cs.toList.set (off+i) v⟩ off (i+1) (eP hb) (by simp;omega) (by unfold Uf at *;omega) (fun u hu=>hv u (by simp[hu]));rw[Gr]at ih;simp only[storeCells,Sem.run_bind,ay (a:=⟨b,off,none⟩) rfl,h1,Result.andThen_ok];exact ih
theorem Im{t:TypeId}{x v:Value}{K:Pw}(h:xN P t x v K w):∃w',(Instr.storeAt t x v).run P w = .ok () w'/\K w':=by
 unfold xN at h;split at h
 .rename_i a i hi
  have one:∀{v:Value},cB v=true->Nat.beq i.size 1=true->aH w a v K->∃w',(Instr.storeAt t (.pointer (some a)) v).run P w = .ok () w'/\K w':=fun {v} hv hz h=>by
   have Qs:i.size=1:=Nat.eq_of_beq_eq_true hz;obtain⟨w',h1,h2⟩:=Hy (P:=P) h;refine⟨w',?_,h2⟩;have ec:v.cells=#[v]:=by cases v <;> first | rfl | cases hv
   have e:¬ (v.cells.size≠i.size):=by rw[ec];simp[Qs]
   simp only[Instr.storeAt,Instr.sureAddr,storeVar,Sem.run_bind,Sem.run_pure,Result.andThen_ok,bL hi];rw[if_neg e,ec];simp only[storeCells,Sem.run_bind,Addr.add,if_true,h1,Result.andThen_ok,Sem.run_pure]
  cases hvt:Bc P t with
  | true=>
   rw[hvt]at h;simp only[cond_true]at h
   cases hz:Nat.beq i.size 1 with
   | false=>rw[hz]at h;exact h.elim
   | true=>
    rw[hz]at h;simp only[cond_true]at h;obtain⟨_,_,_,_,_,_,_,hv,_⟩:=id h;exact one hv hz h
  | false=>
  rw[hvt]at h;simp only[cond_false]at h;split at h
  .rename_i cs;obtain⟨hl,cs0,T,fz,hb,hs,ho,hu,hv,hk⟩:=h;refine⟨_,?_,hk _ rfl⟩;have:=rU (P:=P) cs.toList w cs0 a.off 0 hb (by simpa using ho) hu hv;simp only[Instr.storeAt,Instr.sureAddr,storeVar,Sem.run_bind,Sem.run_pure,Result.andThen_ok,bL hi];have e:¬ ((Value.agg cs).cells.size≠i.size):=by simp only[Value.cells];simpa using hl
   rw[if_neg e];have ea:a=⟨a.block,a.off,none⟩:=by cases a;simp_all
   rw[ea];simpa[Value.cells] using this
  .rename_i du
   cases hz:Nat.beq i.size 1 with
   | false=>rw[hz]at h;exact h.elim
   | true=>
    rw[hz]at h;have Qs:i.size=1:=Nat.eq_of_beq_eq_true hz;obtain⟨w',h1,h2⟩:=Hy (P:=P) h;refine⟨w',?_,h2⟩;have ec:v.cells=#[v]:=by cases v <;> first | rfl | exact absurd rfl (du _)
    have e:¬ (v.cells.size≠i.size):=by rw[ec];simp[Qs]
    simp only[Instr.storeAt,Instr.sureAddr,storeVar,Sem.run_bind,Sem.run_pure,Result.andThen_ok,bL hi];rw[if_neg e,ec];simp only[storeCells,Sem.run_bind,Addr.add,if_true,h1,Result.andThen_ok,Sem.run_pure]
 .exact h.elim
theorem gi{e:TypeId}{cells:Array Value}:(newRow e cells).run P w = .ok ⟨w.heap.size,0,none⟩ (World.cL w (.cells cells e)):=by
 simp[newRow,newObj,Sem.run,World.cL]
theorem xl(f:Value->ByteArray->Sem (ForInStep ByteArray))(hf:∀n s,f (.int .u8 n) s=pure (ForInStep.yield (s.push (UInt8.ofNat n.toNat)))):∀(ns:List Int)(acc:ByteArray)(w:Wd),
  (forIn (ns.map (Value.int .u8)).toArray acc f).run P w = .ok ⟨(acc.data.toList++ns.map (fun n=>UInt8.ofNat n.toNat)).toArray⟩ w
 | [],acc,w=>by simp
 | n::ns,acc,w=>by
  have ih:=xl f hf ns (acc.push (UInt8.ofNat n.toNat)) w;simp only[List.forIn_toArray,List.map_cons,List.forIn_cons,hf,Sem.run_bind,Sem.run_pure,Result.andThen_ok]at ih ⊢;rw[ih];simp[ByteArray.push,List.append_assoc]
theorem NB{C:Addr->Value->Prop}{s:Sl}{K:ByteArray->Prop}(h:mH C s K) :
  ∃bs,(∀w:Wd,(∀a v,C a v->w.cell? a=some v)->(Conv.bytesToString s.v).run P w = .ok (.string bs) w)/\K bs:=by
 obtain⟨bs,⟨h1,h2,h3⟩,hk⟩:=h;refine⟨_,fun w hc=>?_,hk⟩;obtain⟨sa,n,c⟩:=s;simp only at h1 h2 h3
 cases sa with
 | none=>
  have:=h3 rfl;subst this;simp[Conv.bytesToString];rfl
 | some a=>
  have hex:∀i (h:i < bs.length),∃n,w.cell? (a.add i)=some (.int .u8 n)/\UInt8.ofNat n.toNat=bs[i]:=fun i h=>by
   obtain⟨a',m,e,hca,hm⟩:=h2 i h
   cases e
   exact⟨m,hc _ _ hca,hm⟩
  have hns:∃ns:List Int,ns.length=bs.length/\∀i (h:i < ns.length) (h':i < bs.length),w.cell? (a.add i)=some (.int .u8 ns[i])/\UInt8.ofNat ns[i].toNat=bs[i]:=by
   clear h1 h2 h3 hk;refine⟨(List.finRange bs.length).map fun(i:Fin bs.length)=>Classical.choose (hex i.1 i.2),by simp,?_⟩;intro i h h';simp only[List.getElem_map,List.getElem_finRange];exact Classical.choose_spec (hex i h')
  obtain⟨ns,hl,hns⟩:=hns
  have e1:ns.map (fun n=>UInt8.ofNat n.toNat)=bs:=by
   apply List.ext_getElem (by simp[hl]);intro i h h';simp only[List.getElem_map];exact(hns i (by simpa using h) h').2
  have Yq:=nL (P:=P) (w:=w) (a:=a) (ns.map (Value.int .u8)) 0 #[] (fun j hj=>by
   simp only[Nat.zero_add,List.getElem_map]
   exact(hns j (by simpa using hj) (by rw[<- hl];simpa using hj)).1)
  have e2:(ns.map (Value.int .u8)).length=n:=by rw[List.length_map,hl,h1]
  rw[e2]at Yq;simp only[Conv.bytesToString,loadCells,Sem.run_bind,Yq,Result.andThen_ok,Array.empty_append];rw[xl _ (fun n s=>rfl)];simp[e1,ByteArray.empty,ByteArray.emptyWithCapacity];rfl
theorem Ck{C:Addr->Value->Prop}{src dst:TypeId}{x:Value}{K:Value->Prop}(h:Pq C P src dst x K) :
  ∃v,(∀w:Wd,(∀a v,C a v->w.cell? a=some v)->(convert src dst x).run P w = .ok v w)/\K v:=by
 unfold Pq at h
 cases hb:NA P src dst with
 | false=>
  rw[hb]at h;obtain⟨v,h1,h2⟩:=Ci h;exact⟨v,fun w _=>h1 w,h2⟩
 | true=>
  rw[hb]at h;simp only[cond_true]at h;split at h
  .rename_i a n c;obtain⟨bs,h1,h2⟩:=NB (P:=P) h;refine⟨_,fun w hc=>?_,h2⟩;unfold NA at hb;split at hb
   .rename_i e hs hd;split at hb
    .rename_i he;simp only[convert,Sem.run_bind,aD hs,aD hd,aD he,Result.andThen_ok];exact h1 w hc
    .cases hb
   .cases hb
  .exact h.elim
end sound
end Go.V
