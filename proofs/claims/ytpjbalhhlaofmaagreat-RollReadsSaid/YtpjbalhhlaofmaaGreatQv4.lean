/- Texts for LRollSame,LRollBytes,LRollReads,LRollNone, part 4. -/
import Derived.CallsIn
import Derived.Test.YtpjbalhhlaofmaaGreatQv3
namespace Go.V
def World.cP(w:Wd)(b:Nat)(o:Obj):Wd:={ w with heap:=w.heap.setIfInBounds b o }
def World.cw(w:Wd)(o:Obj):Wd:={ w with heap:=w.heap.push o }
structure Da(w:Wd)(o:Obj)(b:Nat)(w':Wd):Prop where
 at_:b=w.heap.size
 is:w'=World.cw w o
def gB(w:Wd)(b:Nat)(o:Obj)(w':Wd):Prop:=w'=World.cP w b o
def af(w:Wd)(o:Obj)(K:Nat->Pw):Prop:=∀b w',Da w o b w'->K b w'
def Uf(fz:Nat×Nat)(off n:Nat):Prop:=fz.2<=off∨off+n<=fz.1∨fz.2<=fz.1
def aQ(w:Wd)(a:Addr)(v:Value)(K:Pw):Prop:=
 ∃cs T fz,w.heap[a.block]? = some (.cells cs T fz)/\a.spot=none/\a.off < cs.size/\Uf fz a.off 1/\aJ v=true/\
  ∀w',gB w a.block (.cells ⟨cs.toList.set a.off v⟩ T fz) w'->K w'
def gT(w:Wd)(a:Addr)(vs:List Value)(K:Pw):Prop:=
 ∃cs T fz,w.heap[a.block]? = some (.cells cs T fz)/\a.spot=none/\a.off+vs.length<=cs.size/\Uf fz a.off vs.length/\(∀v∈vs,aJ v=true)/\
  ∀w',gB w a.block (.cells ⟨setL cs.toList a.off vs⟩ T fz) w'->K w'
abbrev aP(w:Wd)(a:Addr)(n:Nat)(l:List Value)(K:Pw):Prop:=l.length=n/\gT w a l K
abbrev A0(b:Nat):Addr:=⟨b,0,none⟩
def abX(C:Addr->Value->Prop)(a:Addr)(i:Nat)(k:IntKind)(l:List Int):Prop:=∀j (h:j < l.length),C (a.add (i+j)) (.int k l[j])
def RR(C:Addr->Value->Prop)(a:Addr):List xG->Nat->(List Value->Prop)->Prop
 | [],_,K=>K []
 | .one s::r,i,K=>∃x:s.T,C (a.add i) (s.mk x)/\RR C a r (i+1) (fun vs=>K (s.mk x::vs))
 | .row k n::r,i,K=>∃l:List Int,l.length=n/\abX C a i k l/\RR C a r (i+n) (fun vs=>K (l.map (Value.int k)++vs))
def Gu(C:Addr->Value->Prop)(P:Program)(t:TypeId)(x:Value)(K:Value->Prop):Prop:=
 match x with
 | .pointer (some a)=>match uN P t with
  | .one s=>∃y:s.T,C a (s.mk y)/\K (s.mk y)
  | .agg l=>RR C a l 0 (fun vs=>K (.agg vs.toArray))
  | .bad=>False
 | _=>False
def Cell(w:Wd)(a:Addr)(v:Value):Prop:=w.cell? a=some v
def ae(S:Pw)(a:Addr)(v:Value):Prop:=∀w,S w->w.cell? a=some v
def IT(P:Program)(t:TypeId)(x v:Value)(K:Pw)(w:Wd):Prop:=
 match x,P.info? t with
 | .pointer (some a),some i=>bif wy P t then(bif Nat.beq i.size 1 then aQ w a v K else False) else match v with
  | .agg cs=>cs.toList.length=i.size/\gT w a cs.toList K
  | v=>bif Nat.beq i.size 1 then aQ w a v K else False
 | _,_=>False
def U8(C:Addr->Value->Prop)(s:Sl)(bs:List UInt8):Prop:=
 bs.length=s.len/\(∀i (h:i < bs.length),∃a n,s.a=some a/\C (a.add i) (.int .u8 n)/\UInt8.ofNat n.toNat=bs[i])/\(s.a=none->bs=[])
def iR(C:Addr->Value->Prop)(s:Sl)(K:ByteArray->Prop):Prop:=∃bs:List UInt8,U8 C s bs/\K ⟨bs.toArray⟩
def IU(P:Program)(src dst:TypeId):Bool:=
 match P.underlying src,P.underlying dst with
 | some (.slice e),some .string=>match P.underlying e with
  | some (.int .u8)=>true
  | _=>false
 | _,_=>false
def Kd(C:Addr->Value->Prop)(P:Program)(src dst:TypeId)(x:Value)(K:Value->Prop):Prop:=
 bif IU P src dst then match x with
  | .slice a n c=>iR C ⟨a,n,c⟩ fun s=>K (.string s)
  | _=>False
 else Kc P src dst x K
def Lr:List Ty->(List Value->Prop)->Prop
 | [],F=>F []
 | t::ts,F=>Yn t (fun v=>Lr ts (fun vs=>F (v::vs)))
def Yv(P:Program)(f:FuncId)(args:List Value)(tys:List Ty)(K:Value->Pw)(w:Wd):Prop:=
 Calls P f args.toArray w (fun e w'=>Lr tys (fun vs=>e = .returned (CX vs)/\K (CX vs) w'))
abbrev PX:=List PanicEntry->Pw
def Yw(P:Program)(f:FuncId)(args:List Value)(tys:List Ty)(K:Value->Pw)(X:PX)(w:Wd):Prop:=
 Calls P f args.toArray w (fun e w'=>(Lr tys (fun vs=>e = .returned (CX vs)/\K (CX vs) w'))∨∃c,e = .panicked c/\X c w')
def uQ (fn : Func) : Bool:= fn.body.isSome && !(fn.name == "runtime.NumGoroutine")
def uR(P:Program)(l:List Ty)(s:Sem Value)(K:Value->Pw)(w:Wd):Prop:=Lr l (fun vs=>∃w',s.run P w = .ok (CX vs) w'/\K (CX vs) w')
def U9(P:Program)(s:Sem Unit)(K:Value->Pw)(w:Wd):Prop:=∃w',s.run P w = .ok () w'/\K undef w'
def abY(P:Program)(l:List Ty)(s:Sem Next)(K:Value->Pw)(w:Wd):Prop:=Lr l (fun vs=>∃w',s.run P w = .ok (.value (CX vs)) w'/\K (CX vs) w')
def TO(P:Program)(pk:Nat)(n:FuncId)(args:List Value)(K:Value->Pw)(X:PX)(w:Wd):Prop:=
 match P.funcs[n]? with
 | some fn=>bif uQ fn then(bif Nat.testBit pk n then Yw P n args (fn.resultTypes.toList.map (uN P)) K X w else Yv P n args (fn.resultTypes.toList.map (uN P)) K w)
  else abY P (fn.resultTypes.toList.map (uN P)) (callFunc n args.toArray) K w
 | none=>False
def qJ(P:Program)(t:TypeId):List Ty:=match P.underlying t with
 | some (.tuple ts)=>ts.toList.map (uN P)
 | _=>[uN P t]
def Gv{X:Type}:(l:List xG)->List Value->(List Value->X)->Cj l X
 | [],acc,F=>F acc
 | .one s::r,acc,F=>fun x=>Gv r (acc++[s.mk x]) F
 | .row k _::r,acc,F=>fun l=>Gv r (acc++l.map (Value.int k)) F
def wD:(l:List Ty)->List Value->(Value->Pw)->jC l
 | [],acc,K=>fun w=>K (CX acc) w
 | .one s::r,acc,K=>fun x=>wD r (acc++[s.mk x]) K
 | .agg l::r,acc,K=>Gv l [] (fun vs=>wD r (acc++[.agg vs.toArray]) K)
 | .bad::r,acc,K=>fun v=>wD r (acc++[v]) K
def Gw(l:List Ty)(K:jC l)(X:PX)(e:Ending)(w':Wd):Prop:=FY l K (fun vs Y=>e = .returned (CX vs)/\Y w')∨∃c,e = .panicked c/\X c w'
def Gx(P:Program)(rd:Bool)(s:Sem Next)(w:Wd)(R:Ending->Pw):Prop:=match s.run P w with
 | .ok (.enter f as) w'=>Calls P f as w' R
 | .ok (.round l f tmps a b) w'=>rd=true/\RoundIn Fence.wide 0 P l f tmps a b w' R
 | _=>False
def Gy(fv:Value)(args:List Value):Sem Next:=do let d<- Deferred.ofValue fv args.toArray;invoke d.target d.args
def aD(P:Program)(rd:Bool)(fv:Value)(args:List Value)(l:List Ty)(K:jC l)(X:PX)(w:Wd):Prop:=Gx P rd (Gy fv args) w (Gw l K X)
def oh(P:Program)(recv:Value)(m:String)(args:List Value)(l:List Ty)(K:jC l)(X:PX)(w:Wd):Prop:=Gx P false (invoke (.fn (.method m) #[]) (#[recv]++args.toArray)) w (Gw l K X)
def bg(P:Program)(t t':TypeId)(s:Sl)(x:Value)(K:Sl->Pw)(w:Wd):Prop:=
 ∃s' w',(∀ty,(Builtin.append_ #[t,t'] ty #[s.v,x]).run P w = .ok s'.v w')/\K s' w'
def dR(P:Program)(t t':TypeId)(s:Sl)(x:Value)(K:Int->Pw)(w:Wd):Prop:=
 ∃n w',(∀ty,(Builtin.copy_ #[t,t'] ty #[s.v,x]).run P w = .ok (.int .i64 n) w')/\K n w'
def ld(ρ:Env)(n sz:Nat):Nat->List (Nat×Operand)->Option (List Value)
 | i,[]=>bif Nat.beq i n then some [] else none
 | i,(j,x)::r=>bif Nat.beq i j && Nat.beq (cS (ev ρ x)).length sz then(ld ρ n sz (i+1) r).map (cS (ev ρ x)++·) else none
def Ak(ρ:Env)(n sz:Nat):Nat->List (Nat×Operand)->(List Value->Prop)->Prop
 | i,[],K=>bif Nat.beq i n then K [] else False
 | i,(j,x)::r,K=>bif Nat.beq i j then(cS (ev ρ x)).length=sz/\Ak ρ n sz (i+1) r (fun cs=>K (cS (ev ρ x)++cs)) else False
def wE(P:Program)(t:TypeId)(n:Nat)(ρ:Env)(parts:List (Nat×Operand))(K:Value->Pw)(w:Wd):Prop:=
 match P.underlying t with
 | some (.slice e)=>match P.info? e with
  | some ie=>bif Nat.ble (n * ie.size) 16777216 then(bif Lo P e then(bif ie.zero.isSome then Ak ρ n ie.size 0 parts fun cs=>af w (.cells cs.toArray e) fun b w'=>K (.slice (some ⟨b,0,none⟩) n n) w' else False) else match ie.zero,ld ρ n ie.size 0 parts with
   | some _,some cs=>af w (.cells cs.toArray e) fun b w'=>K (.slice (some ⟨b,0,none⟩) n n) w'
   | _,_=>False)
   else False
  | none=>False
 | _=>False
def NU(P:Program)(t:TypeId)(K:Value->Pw)(w:Wd):Prop:=
 match P.info? t with
 | some i=>match i.zero with
  | some z=>af w (.cells (cS z).toArray t) fun b w'=>K (.pointer (some ⟨b,0,none⟩)) w'
  | none=>False
 | none=>False
def FZ(w:Wd)(e:TypeId)(zs:List Value)(bytes:Nat)(l c:Int)(K:Sl->Pw):Prop:=
 0<=l/\l<=c/\c<=9223372036854775807/\bytes * c<=281474976710656/\
  af w (.cells (List.replicate c.toNat zs).flatten.toArray e) fun b w'=>K ⟨some ⟨b,0,none⟩,l.toNat,c.toNat⟩ w'
def NV(P:Program)(t:TypeId)(l c:Value)(K:Value->Pw)(w:Wd):Prop:=
 match P.underlying t with
 | some (.slice e)=>match P.info? e with
  | some ie=>match ie.zero,l,c with
   | some z,.int _ l,.int _ c=>bif Nat.beq (cS z).length ie.size && Nat.blt 0 ie.size then FZ w e (cS z) ie.bytes l c fun s w'=>K (.slice s.a s.len s.cap) w' else False
   | _,_,_=>False
  | none=>False
 | _=>False
def Db(P:Program)(src dst:TypeId):Bool:=
 match P.underlying src,P.underlying dst with
 | some .string,some (.slice e)=>match P.underlying e with
  | some (.int .u8)=>true
  | _=>false
 | some (.slice _),some (.slice _)=>true
 | _,_=>false
def NW(v:Value)(X:PX)(w:Wd):Prop:=match v with
 | .iface t v=>X [{ v:= .iface t v,recovered:=false }] w
 | _=>False
def Gz(P:Program)(src dst:TypeId):Bool:=
 match P.underlying src,P.underlying dst with
 | some (.pointer _),some .unsafePointer=>true
 | some .unsafePointer,some (.pointer _)=>true
 | _,_=>false
def NX(P:Program)(t:TypeId):Bool:=match P.underlying t with
 | some (.pointer _)=>true
 | some (.interface _)=>true
 | _=>false
def U_(op:BinOp)(t:TypeId)(x y:Operand)(a b:Value):Sem Value:=do
 eqGuard op t x y a b
 binOp op t a b
def NY(P:Program):List TypeId->Bool
 | [t]=>match P.underlying t with
  | some (.map _ _)=>true
  | _=>false
 | _=>false
def Yx(P:Program)(s:Sem Value)(K:Value->Pw)(w:Wd):Prop:=
 (∃w',s.run P w = .ok (.tuple #[.bool false]) w'/\K (.tuple #[.bool false]) w')∨∃k v w',s.run P w = .ok (.tuple #[.bool true,k,v]) w'/\K (.tuple #[.bool true,k,v]) w'
def abZ(P:Program)(s:Sem Value)(K:Value->Pw)(w:Wd):Prop:=∃k v w',s.run P w = .ok (.tuple #[k,v]) w'/\K (.tuple #[k,v]) w'
def RS(P:Program)(pk:Nat)(X:PX)(rd:Bool)(o:Oper)(ρ:Env)(K:Value->Pw)(w:Wd):Prop:=
 match o.op with
 | .lookup t x i ck=>uR P (bif ck then(qJ P o.type) else[uN P o.type]) (Instr.lookup t (ev ρ x) (ev ρ i) ck) K w
 | .mapUpdate t m k v=>U9 P (Instr.mapUpdate t (ev ρ m) (ev ρ k) (ev ρ v)) K w
 | .insert t m k v=>U9 P (Instr.mapUpdate t (ev ρ m) (ev ρ k) (ev ρ v)) K w
 | .makeMap _ none=>af w (.map #[] 0) fun b w'=>K (.map (some b)) w'
 | .range t x=>uR P [.one .ptr] (Instr.range t (ev ρ x)) K w
 | .next it isS=>Yx P (Instr.next (ev ρ it) isS o.type) K w
 | .entry it=>abZ P (Instr.entry (ev ρ it)) K w
 | .typeAssert x xt at_ ck=>uR P (bif ck then(qJ P o.type) else[uN P o.type]) (Instr.typeAssert (ev ρ x) xt at_ ck) K w
 | .panic x=>NW (ev ρ x) X w
 | .load t x=>Gu (Cell w) P t (ev ρ x) (fun v=>K v w)
 | .store t x v=>IT P t (ev ρ x) (ev ρ v) (fun w'=>K undef w') w
 | .alloc t=>NU P t K w
 | .box t x=>bif wy P t then aJ (ev ρ x)=true/\af w (.cells [ev ρ x].toArray t) fun b w'=>K (.pointer (some ⟨b,0,none⟩)) w' else af w (.cells (cS (ev ρ x)).toArray t) fun b w'=>K (.pointer (some ⟨b,0,none⟩)) w'
 | .buildSlice t n parts=>wE P t n ρ parts.toList K w
 | .makeSlice t l c=>NV P t (ev ρ l) (ev ρ c) K w
 | .convert s d x=>bif Db P s d then uR P [.one .sl] (convert s d (ev ρ x)) K w else bif Gz P s d then uR P [.one .ptr] (convert s d (ev ρ x)) K w else Kd (Cell w) P s d (ev ρ x) (fun v=>K v w)
 | .binOp op t x (.tmp y) _=>bif NX P t then uR P [.one .bool] (U_ op t x (.tmp y) (ev ρ x) (ρ y)) K w else Rl P o ρ (fun v=>K v w)
 | .call ⟨.value (.func n),args,_⟩=>TO P pk n (args.toList.map (ev ρ)) K X w
 | .call ⟨.value f,args,_⟩=>aD P rd (ev ρ f) (args.toList.map (ev ρ)) (qJ P o.type) (wD (qJ P o.type) [] K) X w
 | .call ⟨.invoke r m,args,_⟩=>oh P (ev ρ r) m (args.toList.map (ev ρ)) (qJ P o.type) (wD (qJ P o.type) [] K) X w
 | .call ⟨.builtin .delete,args,tys⟩=>uR P [] (Builtin.delete_ tys o.type (args.map (ev ρ))) K w
 | .call ⟨.builtin .clear,args,tys⟩=>uR P [] (Builtin.clear_ tys o.type (args.map (ev ρ))) K w
 | .call ⟨.builtin .unsafeSliceData,args,tys⟩=>uR P [.one .ptr] (Builtin.unsafeSliceData_ tys o.type (args.map (ev ρ))) K w
 | .call ⟨.builtin .unsafeString,args,tys⟩=>uR P [.one .str] (Builtin.unsafeString_ tys o.type (args.map (ev ρ))) K w
 | .call ⟨.builtin .max,args,tys⟩=>bif Nat.beq args.toList.length 2 then Rl P o ρ (fun v=>K v w) else uR P [.one (.int .i64)] (Builtin.max_ tys o.type (args.map (ev ρ))) K w
 | .call ⟨.builtin .len,args,tys⟩=>bif NY P tys.toList then uR P [.one (.int .i64)] (Builtin.len_ tys o.type (args.map (ev ρ))) K w else Rl P o ρ (fun v=>K v w)
 | .call ⟨.builtin .append,args,tys⟩=>match args.toList,tys.toList with
  | [s,x],[t,t']=>match ev ρ s with
   | .slice a n c=>bg P t t' ⟨a,n,c⟩ (ev ρ x) (fun s' w'=>K (.slice s'.a s'.len s'.cap) w') w
   | _=>False
  | _,_=>False
 | .call ⟨.builtin .copy,args,tys⟩=>match args.toList,tys.toList with
  | [s,x],[t,t']=>match ev ρ s with
   | .slice a n c=>dR P t t' ⟨a,n,c⟩ (ev ρ x) (fun n w'=>K (.int .i64 n) w') w
   | _=>False
  | _,_=>False
 | _=>Rl P o ρ (fun v=>K v w)
def NZ(P:Program)(S:Pw)(o:Oper)(ρ:Env)(K:Value->Prop):Prop:=
 match o.op with
 | .load t x=>Gu (ae S) P t (ev ρ x) K
 | .convert s d x=>Kd (ae S) P s d (ev ρ x) K
 | _=>Rl P o ρ K
def jP(P:Program)(X:PX)(rd:Bool)(o:Oper)(ε:Operand->Value)(K:Value->Pw)(w:Wd):Prop:=
 match(execOp ε o).run P w with
 | .ok (.value v) w'=>K v w'
 | .ok .skip w'=>K undef w'
 | .ok (.enter f args) w'=>Calls P f args w' (fun e gE=>(∃v,e = .returned v/\K v gE)∨∃c,e = .panicked c/\X c gE)
 | .ok (.round l f tmps a b) w'=>rd=true/\RoundIn Fence.wide 0 P l f tmps a b w' (fun e gE=>(∃v,e = .returned v/\K v gE)∨∃c,e = .panicked c/\X c gE)
 | .halt (.panic v) w'=>X [{ v,recovered:=false }] w'
 | _=>False
section sound
variable {P:Program} {w:Wd}
theorem run_load{a:Addr}{v:Value}(h:w.cell? a=some v):(load a).run P w = .ok v w:=by
 simp[load,Sem.run,h]
theorem lK{a:Addr}:∀(vs:List Value)(i:Nat)(acc:Array Value),(∀j (h:j < vs.length),w.cell? (a.add (i+j))=some vs[j])->
  (loadCellsFrom a i vs.length acc).run P w = .ok (acc++vs.toArray) w
 | [],i,acc,_=>by simp[loadCellsFrom]
 | v::vs,i,acc,h=>by
  have h0:=h 0 (by simp);simp only[Nat.add_zero,List.getElem_cons_zero]at h0
  have ih:=lK vs (i+1) (acc.push v) (fun j hj=>by
   have:=h (j+1) (by simp;omega)
   simpa[Nat.add_assoc,Nat.add_comm 1 j] using this)
  simp only[List.length_cons,loadCellsFrom,Sem.run_bind,run_load h0,Result.andThen_ok,ih];congr 1;apply Array.toList_inj.1;simp
def pn:List xG->Nat
 | []=>0
 | .one _::r=>pn r+1
 | .row _ n::r=>pn r+n
theorem Dc(k:IntKind):∀l:List Value,tj k l<=l.length
 | []=>by simp[tj]
 | v::r=>by
  have:=Dc k r
  cases v <;> simp only[tj,List.length_cons] <;> first | omega | (split <;> omega)
theorem m_:∀(n:Nat)(l:List Value),l.length<=n->pn (CV n l)=l.length
 | 0,l,h=>by simp at h;subst h;rfl
 | n+1,[],_=>rfl
 | n+1,v::vs,h=>by
  have hvs:vs.length<=n:=by simp at h;omega
  cases v <;> simp only[CV,pn,m_ n vs hvs,List.length_cons]
  rename_i k z;split
  .rename_i h8;have hr:=Dc k (.int k z::vs);simp only[List.length_cons]at hr;rw[pn,m_ n _ (by simp;omega)];simp;omega
  .rw[pn,m_ n vs hvs]
theorem tu{C:Addr->Value->Prop}{a:Addr}:∀(l:List xG)(i:Nat)(K:List Value->Prop),RR C a l i K->
  ∃vs,vs.length=pn l/\(∀j (h:j < vs.length),C (a.add (i+j)) vs[j])/\K vs
 | [],i,K,h=>⟨[],rfl,by simp,h⟩
 | .one s::r,i,K,h=>by
  obtain⟨x,hx,h⟩:=h;obtain⟨vs,h1,h2,h3⟩:=tu r (i+1) _ h;refine⟨s.mk x::vs,by simp[pn,h1],?_,h3⟩;intro j hj
  cases j with
  | zero=>exact hx
  | succ j=>
   have:=h2 j (by simp at hj;omega);simp only[List.getElem_cons_succ]
   rwa [show i+(j+1)=i+1+j from by omega]
 | .row k n::r,i,K,h=>by
  obtain⟨l,hl,hc,h⟩:=h;obtain⟨vs,h1,h2,h3⟩:=tu r (i+n) _ h;refine⟨l.map (Value.int k)++vs,by simp[pn,h1,hl];omega,?_,h3⟩;intro j hj;by_cases eO:j < l.length
  .rw[List.getElem_append_left (by simpa using eO)];simpa using hc j eO
  .rw[List.getElem_append_right (by simpa using eO)];have:=h2 (j - l.length) (by simp at hj;omega);simp only[List.length_map]
   rwa [show i+n+(j - l.length)=i+j from by omega]at this
theorem qK{C:Addr->Value->Prop}{t:TypeId}{x:Value}{K:Value->Prop}(h:Gu C P t x K) :
  ∃v,(∀w:Wd,(∀a v,C a v->w.cell? a=some v)->(Instr.loadAt t x).run P w = .ok v w)/\K v:=by
 unfold Gu at h;split at h
 .rename_i a;unfold uN at h;split at h
  .rename_i s heq;obtain⟨y,hy,hk⟩:=h;refine⟨_,fun w hc=>?_,hk⟩;split at heq
   .rename_i i d hi hd;split at heq
    .rename_i zs hz;cases hb:(jO d && Nat.beq i.size zs.size) <;> rw[hb]at heq <;> cases heq
    .rename_i z hz
     cases hb:jO d with
     | true=>rw[hb]at heq;cases heq
     | false=>simp only[Instr.loadAt,Instr.sureAddr,loadVar,Sem.run_bind,Sem.run_pure,Result.andThen_ok,wz hd,hb,Bool.false_eq_true,if_false,run_load (hc _ _ hy)]
    .cases heq
   .cases heq
  .rename_i l heq;obtain⟨vs,h1,h2,hk⟩:=tu l 0 _ h;refine⟨_,fun w hc=>?_,hk⟩;split at heq
   .rename_i i d hi hd;split at heq
    .rename_i zs hz
     cases hb:(jO d && Nat.beq i.size zs.size) with
     | false=>rw[hb]at heq;cases heq
     | true=>
      rw[hb]at heq;simp only[cond_true,Ty.agg.injEq]at heq;simp only[Bool.and_eq_true,Nat.beq_eq]at hb;have hlen:vs.length=i.size:=by rw[h1,<- heq,m_ _ _ (by simp),Array.length_toList,hb.2]
      have:=lK (P:=P) (w:=w) (a:=a) vs 0 #[] (fun j hj=>hc _ _ (h2 j hj));rw[hlen]at this;simp only[Instr.loadAt,Instr.sureAddr,loadVar,Sem.run_bind,Sem.run_pure,Result.andThen_ok,wz hd,hb.1,if_true,bI hi,loadCells,this];simp
    .rename_i z hz;cases hb:jO d <;> rw[hb]at heq <;> cases heq
    .cases heq
   .cases heq
  .exact h.elim
 .exact h.elim
theorem run_store{a:Addr}{v old:Value}(hv:aJ v=true)(hc:w.cell? a=some old)(hf:w.frozen? a=false) :
  (store a v).run P w = .ok () (w.setCell a v):=by
 cases v <;> simp only[aJ,Bool.false_eq_true]at hv <;> simp[store,Sem.run,hc,hf]
theorem Dd{b off:Nat}{cs:Array Value}{T:TypeId}{fz:Nat×Nat}(hb:w.heap[b]? = some (.cells cs T fz))(hu:fz.2<=off∨off+1<=fz.1∨fz.2<=fz.1) :
  w.frozen? ⟨b,off,none⟩=false:=by
 simp only[World.frozen?,hb];obtain⟨lo,hi⟩:=fz;simp at hu ⊢;omega
theorem Al{b off:Nat}{cs:Array Value}{T:TypeId}{fz:Nat×Nat}{v:Value}(hb:w.heap[b]? = some (.cells cs T fz)) :
  w.setCell ⟨b,off,none⟩ v=World.cP w b (.cells ⟨cs.toList.set off v⟩ T fz):=by
 unfold World.setCell World.cP;congr 1;apply Array.ext_getElem?;intro i;simp only[Array.getElem?_modify,Array.getElem?_setIfInBounds];by_cases e:b=i
 .subst e;obtain⟨cF,_⟩:=Array.getElem?_eq_some_iff.1 hb;simp only[if_true,hb,Option.map_some,cF];congr 2;simp;apply Array.toList_inj.1;simp
 .simp[e]
theorem aw{a:Addr}(h:a.spot=none)(i:Nat):a.add i=⟨a.block,a.off+i,none⟩:=by
 unfold Addr.add;split
 .rename_i e;subst e;cases a;simp_all
 .rfl
theorem De{a:Addr}{v:Value}{K:Pw}(h:aQ w a v K):∃w',(store a v).run P w = .ok () w'/\K w':=by
 obtain⟨cs,T,fz,hb,hs,ho,hu,hv,hk⟩:=h;refine⟨_,?_,hk _ rfl⟩;have ea:a=⟨a.block,a.off,none⟩:=by cases a;simp_all
 have hc:w.cell? ⟨a.block,a.off,none⟩=some cs[a.off]:=by simp[World.cell?,hb,ho]
 have:=run_store (P:=P) hv hc (Dd hb hu);rw[Al hb]at this;rw[ea];exact this
theorem dZ{b:Nat}{o o':Obj}(hb:w.heap[b]? = some o):(World.cP w b o').heap[b]? = some o':=by
 obtain⟨cF,_⟩:=Array.getElem?_eq_some_iff.1 hb;simp[World.cP,cF]
theorem Cl{b:Nat}{o o':Obj}:World.cP (World.cP w b o) b o'=World.cP w b o':=by
 simp[World.cP,Array.setIfInBounds_setIfInBounds]
theorem nc{b:Nat}{T:TypeId}{fz:Nat×Nat}:∀(vs:List Value)(w:Wd)(cs:Array Value)(off i:Nat),w.heap[b]? = some (.cells cs T fz)->
  off+i+vs.length<=cs.size->Uf fz (off+i) vs.length->(∀v∈vs,aJ v=true)->
  (storeCells ⟨b,off,none⟩ vs i).run P w = .ok () (World.cP w b (.cells ⟨setL cs.toList (off+i) vs⟩ T fz))
 | [],w,cs,off,i,hb,_,_,_=>by
  have:World.cP w b (.cells ⟨setL cs.toList (off+i) []⟩ T fz)=w:=by
   unfold World.cP setL
   have e:w.heap.setIfInBounds b (.cells ⟨cs.toList⟩ T fz)=w.heap:=by
    apply Array.ext_getElem?;intro j;simp only[Array.getElem?_setIfInBounds];split
    .rename_i e;subst e;obtain⟨cF,he⟩:=Array.getElem?_eq_some_iff.1 hb;simp[cF,he]
    .rfl
   rw[e]
  rw[this];simp[storeCells]
 | v::vs,w,cs,off,i,hb,hl,hu,hv=>by
  simp only[List.length_cons]at hl hu;have ho:off+i < cs.size:=by omega
  have hc:w.cell? ⟨b,off+i,none⟩=some cs[off+i]:=by simp[World.cell?,hb,ho]
  have h1:=run_store (P:=P) (hv v (by simp)) hc (Dd hb (by unfold Uf at hu;omega));rw[Al hb]at h1;have ih:=nc vs (World.cP w b (.cells ⟨cs.toList.set (off+i) v⟩ T fz)) ⟨cs.toList.set (off+i) v⟩ off (i+1) (dZ hb) (by simp;omega) (by unfold Uf at *;omega) (fun u hu=>hv u (by simp[hu]));rw[Cl]at ih;simp only[storeCells,Sem.run_bind,aw (a:=⟨b,off,none⟩) rfl,h1,Result.andThen_ok];exact ih
theorem Et{t:TypeId}{x v:Value}{K:Pw}(h:IT P t x v K w):∃w',(Instr.storeAt t x v).run P w = .ok () w'/\K w':=by
 unfold IT at h;split at h
 .rename_i a i hi
  have one:∀{v:Value},aJ v=true->Nat.beq i.size 1=true->aQ w a v K->∃w',(Instr.storeAt t (.pointer (some a)) v).run P w = .ok () w'/\K w':=fun {v} hv hz h=>by
   have Ls:i.size=1:=Nat.eq_of_beq_eq_true hz;obtain⟨w',h1,h2⟩:=De (P:=P) h;refine⟨w',?_,h2⟩;have ec:v.cells=#[v]:=by cases v <;> first | rfl | cases hv
   have e:¬ (v.cells.size≠i.size):=by rw[ec];simp[Ls]
   simp only[Instr.storeAt,Instr.sureAddr,storeVar,Sem.run_bind,Sem.run_pure,Result.andThen_ok,bI hi];rw[if_neg e,ec];simp only[storeCells,Sem.run_bind,Addr.add,if_true,h1,Result.andThen_ok,Sem.run_pure]
  cases hvt:wy P t with
  | true=>
   rw[hvt]at h;simp only[cond_true]at h
   cases hz:Nat.beq i.size 1 with
   | false=>rw[hz]at h;exact h.elim
   | true=>
    rw[hz]at h;simp only[cond_true]at h;obtain⟨_,_,_,_,_,_,_,hv,_⟩:=id h;exact one hv hz h
  | false=>
  rw[hvt]at h;simp only[cond_false]at h;split at h
  .rename_i cs;obtain⟨hl,RT,T,fz,hb,hs,ho,hu,hv,hk⟩:=h;refine⟨_,?_,hk _ rfl⟩;have:=nc (P:=P) cs.toList w RT a.off 0 hb (by simpa using ho) hu hv;simp only[Instr.storeAt,Instr.sureAddr,storeVar,Sem.run_bind,Sem.run_pure,Result.andThen_ok,bI hi];have e:¬ ((Value.agg cs).cells.size≠i.size):=by simp only[Value.cells];simpa using hl
   rw[if_neg e];have ea:a=⟨a.block,a.off,none⟩:=by cases a;simp_all
   rw[ea];simpa[Value.cells] using this
  .rename_i bA
   cases hz:Nat.beq i.size 1 with
   | false=>rw[hz]at h;exact h.elim
   | true=>
    rw[hz]at h;have Ls:i.size=1:=Nat.eq_of_beq_eq_true hz;obtain⟨w',h1,h2⟩:=De (P:=P) h;refine⟨w',?_,h2⟩;have ec:v.cells=#[v]:=by cases v <;> first | rfl | exact absurd rfl (bA _)
    have e:¬ (v.cells.size≠i.size):=by rw[ec];simp[Ls]
    simp only[Instr.storeAt,Instr.sureAddr,storeVar,Sem.run_bind,Sem.run_pure,Result.andThen_ok,bI hi];rw[if_neg e,ec];simp only[storeCells,Sem.run_bind,Addr.add,if_true,h1,Result.andThen_ok,Sem.run_pure]
 .exact h.elim
theorem eB{e:TypeId}{cells:Array Value}:(newRow e cells).run P w = .ok ⟨w.heap.size,0,none⟩ (World.cw w (.cells cells e)):=by
 simp[newRow,newObj,Sem.run,World.cw]
theorem sV(f:Value->ByteArray->Sem (ForInStep ByteArray))(hf:∀n s,f (.int .u8 n) s=pure (ForInStep.yield (s.push (UInt8.ofNat n.toNat)))):∀(ns:List Int)(acc:ByteArray)(w:Wd),
  (forIn (ns.map (Value.int .u8)).toArray acc f).run P w = .ok ⟨(acc.data.toList++ns.map (fun n=>UInt8.ofNat n.toNat)).toArray⟩ w
 | [],acc,w=>by simp
 | n::ns,acc,w=>by
  have ih:=sV f hf ns (acc.push (UInt8.ofNat n.toNat)) w;simp only[List.forIn_toArray,List.map_cons,List.forIn_cons,hf,Sem.run_bind,Sem.run_pure,Result.andThen_ok]at ih ⊢;rw[ih];simp[ByteArray.push,List.append_assoc]
theorem IV{C:Addr->Value->Prop}{s:Sl}{K:ByteArray->Prop}(h:iR C s K) :
  ∃bs,(∀w:Wd,(∀a v,C a v->w.cell? a=some v)->(Conv.bytesToString s.v).run P w = .ok (.string bs) w)/\K bs:=by
 obtain⟨bs,⟨h1,h2,h3⟩,hk⟩:=h;refine⟨_,fun w hc=>?_,hk⟩;obtain⟨sa,n,c⟩:=s;simp only at h1 h2 h3
 cases sa with
 | none=>
  have:=h3 rfl;subst this;simp[Conv.bytesToString];rfl
 | some a=>
  have hex:∀i (h:i < bs.length),∃n,w.cell? (a.add i)=some (.int .u8 n)/\UInt8.ofNat n.toNat=bs[i]:=fun i h=>by
   obtain⟨a',m,e,hca,hm⟩:=h2 i h
   cases e
   exact⟨m,hc _ _ hca,hm⟩
  have Xu:∃ns:List Int,ns.length=bs.length/\∀i (h:i < ns.length) (h':i < bs.length),w.cell? (a.add i)=some (.int .u8 ns[i])/\UInt8.ofNat ns[i].toNat=bs[i]:=by
   clear h1 h2 h3 hk;refine⟨(List.finRange bs.length).map fun(i:Fin bs.length)=>Classical.choose (hex i.1 i.2),by simp,?_⟩;intro i h h';simp only[List.getElem_map,List.getElem_finRange];exact Classical.choose_spec (hex i h')
  obtain⟨ns,hl,Xu⟩:=Xu
  have e1:ns.map (fun n=>UInt8.ofNat n.toNat)=bs:=by
   apply List.ext_getElem (by simp[hl]);intro i h h';simp only[List.getElem_map];exact(Xu i (by simpa using h) h').2
  have TP:=lK (P:=P) (w:=w) (a:=a) (ns.map (Value.int .u8)) 0 #[] (fun j hj=>by
   simp only[Nat.zero_add,List.getElem_map]
   exact(Xu j (by simpa using hj) (by rw[<- hl];simpa using hj)).1)
  have e2:(ns.map (Value.int .u8)).length=n:=by rw[List.length_map,hl,h1]
  rw[e2]at TP;simp only[Conv.bytesToString,loadCells,Sem.run_bind,TP,Result.andThen_ok,Array.empty_append];rw[sV _ (fun n s=>rfl)];simp[e1,ByteArray.empty,ByteArray.emptyWithCapacity];rfl
theorem xK{C:Addr->Value->Prop}{src dst:TypeId}{x:Value}{K:Value->Prop}(h:Kd C P src dst x K) :
  ∃v,(∀w:Wd,(∀a v,C a v->w.cell? a=some v)->(convert src dst x).run P w = .ok v w)/\K v:=by
 unfold Kd at h
 cases hb:IU P src dst with
 | false=>
  rw[hb]at h;obtain⟨v,h1,h2⟩:=xH h;exact⟨v,fun w _=>h1 w,h2⟩
 | true=>
  rw[hb]at h;simp only[cond_true]at h;split at h
  .rename_i a n c;obtain⟨bs,h1,h2⟩:=IV (P:=P) h;refine⟨_,fun w hc=>?_,h2⟩;unfold IU at hb;split at hb
   .rename_i e hs hd;split at hb
    .rename_i he;simp only[convert,Sem.run_bind,aB hs,aB hd,aB he,Result.andThen_ok];exact h1 w hc
    .cases hb
   .cases hb
  .exact h.elim
end sound
end Go.V
