/- Texts for LRollPlays, part 4. -/
import Derived.CallsIn
import Derived.Test.YtpjbalhhlaofmaaGreatQy3
namespace Go.V
def World.cQ(w:Wd)(b:Nat)(o:Obj):Wd:={ w with heap:=w.heap.setIfInBounds b o }
def World.cD(w:Wd)(o:Obj):Wd:={ w with heap:=w.heap.push o }
structure D_(w:Wd)(o:Obj)(b:Nat)(w':Wd):Prop where
 at_:b=w.heap.size
 is:w'=World.cD w o
def gI(w:Wd)(b:Nat)(o:Obj)(w':Wd):Prop:=w'=World.cQ w b o
def ag(w:Wd)(o:Obj)(K:Nat->Pw):Prop:=∀b w',D_ w o b w'->K b w'
def Uf(fz:Nat×Nat)(off n:Nat):Prop:=fz.2<=off∨off+n<=fz.1∨fz.2<=fz.1
def aF(w:Wd)(a:Addr)(v:Value)(K:Pw):Prop:=
 ∃cs T fz,w.heap[a.block]? = some (.cells cs T fz)/\a.spot=none/\a.off < cs.size/\Uf fz a.off 1/\aN v=true/\
  ∀w',gI w a.block (.cells ⟨cs.toList.set a.off v⟩ T fz) w'->K w'
def jB(w:Wd)(a:Addr)(vs:List Value)(K:Pw):Prop:=
 ∃cs T fz,w.heap[a.block]? = some (.cells cs T fz)/\a.spot=none/\a.off+vs.length<=cs.size/\Uf fz a.off vs.length/\(∀v∈vs,aN v=true)/\
  ∀w',gI w a.block (.cells ⟨setL cs.toList a.off vs⟩ T fz) w'->K w'
abbrev aQ(w:Wd)(a:Addr)(n:Nat)(l:List Value)(K:Pw):Prop:=l.length=n/\jB w a l K
abbrev A0(b:Nat):Addr:=⟨b,0,none⟩
def ac7(C:Addr->Value->Prop)(a:Addr)(i:Nat)(k:IntKind)(l:List Int):Prop:=∀j (h:j < l.length),C (a.add (i+j)) (.int k l[j])
def TT(C:Addr->Value->Prop)(a:Addr):List zD->Nat->(List Value->Prop)->Prop
 | [],_,K=>K []
 | .one s::r,i,K=>∃x:s.T,C (a.add i) (s.mk x)/\TT C a r (i+1) (fun vs=>K (s.mk x::vs))
 | .row k n::r,i,K=>∃l:List Int,l.length=n/\ac7 C a i k l/\TT C a r (i+n) (fun vs=>K (l.map (Value.int k)++vs))
def IJ(C:Addr->Value->Prop)(P:Program)(t:TypeId)(x:Value)(K:Value->Prop):Prop:=
 match x with
 | .pointer (some a)=>match wF P t with
  | .one s=>∃y:s.T,C a (s.mk y)/\K (s.mk y)
  | .agg l=>TT C a l 0 (fun vs=>K (.agg vs.toArray))
  | .bad=>False
 | _=>False
def Cell(w:Wd)(a:Addr)(v:Value):Prop:=w.cell? a=some v
def ae(S:Pw)(a:Addr)(v:Value):Prop:=∀w,S w->w.cell? a=some v
def Lr(P:Program)(t:TypeId)(x v:Value)(K:Pw)(w:Wd):Prop:=
 match x,P.info? t with
 | .pointer (some a),some i=>bif yc P t then(bif Nat.beq i.size 1 then aF w a v K else False) else match v with
  | .agg cs=>cs.toList.length=i.size/\jB w a cs.toList K
  | v=>bif Nat.beq i.size 1 then aF w a v K else False
 | _,_=>False
def W0(C:Addr->Value->Prop)(s:Sl)(bs:List UInt8):Prop:=
 bs.length=s.len/\(∀i (h:i < bs.length),∃a n,s.a=some a/\C (a.add i) (.int .u8 n)/\UInt8.ofNat n.toNat=bs[i])/\(s.a=none->bs=[])
def su(C:Addr->Value->Prop)(s:Sl)(K:ByteArray->Prop):Prop:=∃bs:List UInt8,W0 C s bs/\K ⟨bs.toArray⟩
def Ls(P:Program)(src dst:TypeId):Bool:=
 match P.underlying src,P.underlying dst with
 | some (.slice e),some .string=>match P.underlying e with
  | some (.int .u8)=>true
  | _=>false
 | _,_=>false
def MU(C:Addr->Value->Prop)(P:Program)(src dst:TypeId)(x:Value)(K:Value->Prop):Prop:=
 bif Ls P src dst then match x with
  | .slice a n c=>su C ⟨a,n,c⟩ fun s=>K (.string s)
  | _=>False
 else MT P src dst x K
def Ok:List Ty->(List Value->Prop)->Prop
 | [],F=>F []
 | t::ts,F=>aae t (fun v=>Ok ts (fun vs=>F (v::vs)))
def aaj(P:Program)(f:FuncId)(args:List Value)(tys:List Ty)(K:Value->Pw)(w:Wd):Prop:=
 Calls P f args.toArray w (fun e w'=>Ok tys (fun vs=>e = .returned (EU vs)/\K (EU vs) w'))
abbrev PX:=List PanicEntry->Pw
def aak(P:Program)(f:FuncId)(args:List Value)(tys:List Ty)(K:Value->Pw)(X:PX)(w:Wd):Prop:=
 Calls P f args.toArray w (fun e w'=>(Ok tys (fun vs=>e = .returned (EU vs)/\K (EU vs) w'))∨∃c,e = .panicked c/\X c w')
def wI (fn : Func) : Bool:= fn.body.isSome && !(fn.name == "runtime.NumGoroutine")
def wJ(P:Program)(l:List Ty)(s:Sem Value)(K:Value->Pw)(w:Wd):Prop:=Ok l (fun vs=>∃w',s.run P w = .ok (EU vs) w'/\K (EU vs) w')
def W3(P:Program)(s:Sem Unit)(K:Value->Pw)(w:Wd):Prop:=∃w',s.run P w = .ok () w'/\K undef w'
def ac8(P:Program)(l:List Ty)(s:Sem Next)(K:Value->Pw)(w:Wd):Prop:=Ok l (fun vs=>∃w',s.run P w = .ok (.value (EU vs)) w'/\K (EU vs) w')
def VC(P:Program)(pk:Nat)(n:FuncId)(args:List Value)(K:Value->Pw)(X:PX)(w:Wd):Prop:=
 match P.funcs[n]? with
 | some fn=>bif wI fn then(bif Nat.testBit pk n then aak P n args (fn.resultTypes.toList.map (wF P)) K X w else aaj P n args (fn.resultTypes.toList.map (wF P)) K w)
  else ac8 P (fn.resultTypes.toList.map (wF P)) (callFunc n args.toArray) K w
 | none=>False
def sY(P:Program)(t:TypeId):List Ty:=match P.underlying t with
 | some (.tuple ts)=>ts.toList.map (wF P)
 | _=>[wF P t]
def IK{X:Type}:(l:List zD)->List Value->(List Value->X)->DY l X
 | [],acc,F=>F acc
 | .one s::r,acc,F=>fun x=>IK r (acc++[s.mk x]) F
 | .row k _::r,acc,F=>fun l=>IK r (acc++l.map (Value.int k)) F
def yh:(l:List Ty)->List Value->(Value->Pw)->kA l
 | [],acc,K=>fun w=>K (EU acc) w
 | .one s::r,acc,K=>fun x=>yh r (acc++[s.mk x]) K
 | .agg l::r,acc,K=>IK l [] (fun vs=>yh r (acc++[.agg vs.toArray]) K)
 | .bad::r,acc,K=>fun v=>yh r (acc++[v]) K
def IL(l:List Ty)(K:kA l)(X:PX)(e:Ending)(w':Wd):Prop:=Ij l K (fun vs Y=>e = .returned (EU vs)/\Y w')∨∃c,e = .panicked c/\X c w'
def IM(P:Program)(rd:Bool)(s:Sem Next)(w:Wd)(R:Ending->Pw):Prop:=match s.run P w with
 | .ok (.enter f as) w'=>Calls P f as w' R
 | .ok (.round l f tmps a b) w'=>rd=true/\RoundIn Fence.wide 0 P l f tmps a b w' R
 | _=>False
def IN(fv:Value)(args:List Value):Sem Next:=do let d<- Deferred.ofValue fv args.toArray;invoke d.target d.args
def aC(P:Program)(rd:Bool)(fv:Value)(args:List Value)(l:List Ty)(K:kA l)(X:PX)(w:Wd):Prop:=IM P rd (IN fv args) w (IL l K X)
def pK(P:Program)(recv:Value)(m:String)(args:List Value)(l:List Ty)(K:kA l)(X:PX)(w:Wd):Prop:=IM P false (invoke (.fn (.method m) #[]) (#[recv]++args.toArray)) w (IL l K X)
def bz(P:Program)(t t':TypeId)(s:Sl)(x:Value)(K:Sl->Pw)(w:Wd):Prop:=
 ∃s' w',(∀ty,(Builtin.append_ #[t,t'] ty #[s.v,x]).run P w = .ok s'.v w')/\K s' w'
def eA(P:Program)(t t':TypeId)(s:Sl)(x:Value)(K:Int->Pw)(w:Wd):Prop:=
 ∃n w',(∀ty,(Builtin.copy_ #[t,t'] ty #[s.v,x]).run P w = .ok (.int .i64 n) w')/\K n w'
def mw(ρ:Env)(n sz:Nat):Nat->List (Nat×Operand)->Option (List Value)
 | i,[]=>bif Nat.beq i n then some [] else none
 | i,(j,x)::r=>bif Nat.beq i j && Nat.beq (dh (ev ρ x)).length sz then(mw ρ n sz (i+1) r).map (dh (ev ρ x)++·) else none
def BU(ρ:Env)(n sz:Nat):Nat->List (Nat×Operand)->(List Value->Prop)->Prop
 | i,[],K=>bif Nat.beq i n then K [] else False
 | i,(j,x)::r,K=>bif Nat.beq i j then(dh (ev ρ x)).length=sz/\BU ρ n sz (i+1) r (fun cs=>K (dh (ev ρ x)++cs)) else False
def yi(P:Program)(t:TypeId)(n:Nat)(ρ:Env)(parts:List (Nat×Operand))(K:Value->Pw)(w:Wd):Prop:=
 match P.underlying t with
 | some (.slice e)=>match P.info? e with
  | some ie=>bif Nat.ble (n * ie.size) 16777216 then(bif Oh P e then(bif ie.zero.isSome then BU ρ n ie.size 0 parts fun cs=>ag w (.cells cs.toArray e) fun b w'=>K (.slice (some ⟨b,0,none⟩) n n) w' else False) else match ie.zero,mw ρ n ie.size 0 parts with
   | some _,some cs=>ag w (.cells cs.toArray e) fun b w'=>K (.slice (some ⟨b,0,none⟩) n n) w'
   | _,_=>False)
   else False
  | none=>False
 | _=>False
def QC(P:Program)(t:TypeId)(K:Value->Pw)(w:Wd):Prop:=
 match P.info? t with
 | some i=>match i.zero with
  | some z=>ag w (.cells (dh z).toArray t) fun b w'=>K (.pointer (some ⟨b,0,none⟩)) w'
  | none=>False
 | none=>False
def Ik(w:Wd)(e:TypeId)(zs:List Value)(bytes:Nat)(l c:Int)(K:Sl->Pw):Prop:=
 0<=l/\l<=c/\c<=9223372036854775807/\bytes * c<=281474976710656/\
  ag w (.cells (List.replicate c.toNat zs).flatten.toArray e) fun b w'=>K ⟨some ⟨b,0,none⟩,l.toNat,c.toNat⟩ w'
def QD(P:Program)(t:TypeId)(l c:Value)(K:Value->Pw)(w:Wd):Prop:=
 match P.underlying t with
 | some (.slice e)=>match P.info? e with
  | some ie=>match ie.zero,l,c with
   | some z,.int _ l,.int _ c=>bif Nat.beq (dh z).length ie.size && Nat.blt 0 ie.size then Ik w e (dh z) ie.bytes l c fun s w'=>K (.slice s.a s.len s.cap) w' else False
   | _,_,_=>False
  | none=>False
 | _=>False
def EY(P:Program)(src dst:TypeId):Bool:=
 match P.underlying src,P.underlying dst with
 | some .string,some (.slice e)=>match P.underlying e with
  | some (.int .u8)=>true
  | _=>false
 | some (.slice _),some (.slice _)=>true
 | _,_=>false
def QE(v:Value)(X:PX)(w:Wd):Prop:=match v with
 | .iface t v=>X [{ v:= .iface t v,recovered:=false }] w
 | _=>False
def IP(P:Program)(src dst:TypeId):Bool:=
 match P.underlying src,P.underlying dst with
 | some (.pointer _),some .unsafePointer=>true
 | some .unsafePointer,some (.pointer _)=>true
 | _,_=>false
def QF(P:Program)(t:TypeId):Bool:=match P.underlying t with
 | some (.pointer _)=>true
 | some (.interface _)=>true
 | _=>false
def W4(op:BinOp)(t:TypeId)(x y:Operand)(a b:Value):Sem Value:=do
 eqGuard op t x y a b
 binOp op t a b
def QG(P:Program):List TypeId->Bool
 | [t]=>match P.underlying t with
  | some (.map _ _)=>true
  | _=>false
 | _=>false
def aal(P:Program)(s:Sem Value)(K:Value->Pw)(w:Wd):Prop:=
 (∃w',s.run P w = .ok (.tuple #[.bool false]) w'/\K (.tuple #[.bool false]) w')∨∃k v w',s.run P w = .ok (.tuple #[.bool true,k,v]) w'/\K (.tuple #[.bool true,k,v]) w'
def ac9(P:Program)(s:Sem Value)(K:Value->Pw)(w:Wd):Prop:=∃k v w',s.run P w = .ok (.tuple #[k,v]) w'/\K (.tuple #[k,v]) w'
def TU(P:Program)(pk:Nat)(X:PX)(rd:Bool)(o:Oper)(ρ:Env)(K:Value->Pw)(w:Wd):Prop:=
 match o.op with
 | .lookup t x i ck=>wJ P (bif ck then(sY P o.type) else[wF P o.type]) (Instr.lookup t (ev ρ x) (ev ρ i) ck) K w
 | .mapUpdate t m k v=>W3 P (Instr.mapUpdate t (ev ρ m) (ev ρ k) (ev ρ v)) K w
 | .insert t m k v=>W3 P (Instr.mapUpdate t (ev ρ m) (ev ρ k) (ev ρ v)) K w
 | .makeMap _ none=>ag w (.map #[] 0) fun b w'=>K (.map (some b)) w'
 | .range t x=>wJ P [.one .ptr] (Instr.range t (ev ρ x)) K w
 | .next it isS=>aal P (Instr.next (ev ρ it) isS o.type) K w
 | .entry it=>ac9 P (Instr.entry (ev ρ it)) K w
 | .typeAssert x xt at_ ck=>wJ P (bif ck then(sY P o.type) else[wF P o.type]) (Instr.typeAssert (ev ρ x) xt at_ ck) K w
 | .panic x=>QE (ev ρ x) X w
 | .load t x=>IJ (Cell w) P t (ev ρ x) (fun v=>K v w)
 | .store t x v=>Lr P t (ev ρ x) (ev ρ v) (fun w'=>K undef w') w
 | .alloc t=>QC P t K w
 | .box t x=>bif yc P t then aN (ev ρ x)=true/\ag w (.cells [ev ρ x].toArray t) fun b w'=>K (.pointer (some ⟨b,0,none⟩)) w' else ag w (.cells (dh (ev ρ x)).toArray t) fun b w'=>K (.pointer (some ⟨b,0,none⟩)) w'
 | .buildSlice t n parts=>yi P t n ρ parts.toList K w
 | .makeSlice t l c=>QD P t (ev ρ l) (ev ρ c) K w
 | .convert s d x=>bif EY P s d then wJ P [.one .sl] (convert s d (ev ρ x)) K w else bif IP P s d then wJ P [.one .ptr] (convert s d (ev ρ x)) K w else MU (Cell w) P s d (ev ρ x) (fun v=>K v w)
 | .binOp op t x (.tmp y) _=>bif QF P t then wJ P [.one .bool] (W4 op t x (.tmp y) (ev ρ x) (ρ y)) K w else To P o ρ (fun v=>K v w)
 | .call ⟨.value (.func n),args,_⟩=>VC P pk n (args.toList.map (ev ρ)) K X w
 | .call ⟨.value f,args,_⟩=>aC P rd (ev ρ f) (args.toList.map (ev ρ)) (sY P o.type) (yh (sY P o.type) [] K) X w
 | .call ⟨.invoke r m,args,_⟩=>pK P (ev ρ r) m (args.toList.map (ev ρ)) (sY P o.type) (yh (sY P o.type) [] K) X w
 | .call ⟨.builtin .delete,args,tys⟩=>wJ P [] (Builtin.delete_ tys o.type (args.map (ev ρ))) K w
 | .call ⟨.builtin .clear,args,tys⟩=>wJ P [] (Builtin.clear_ tys o.type (args.map (ev ρ))) K w
 | .call ⟨.builtin .unsafeSliceData,args,tys⟩=>wJ P [.one .ptr] (Builtin.unsafeSliceData_ tys o.type (args.map (ev ρ))) K w
 | .call ⟨.builtin .unsafeString,args,tys⟩=>wJ P [.one .str] (Builtin.unsafeString_ tys o.type (args.map (ev ρ))) K w
 | .call ⟨.builtin .max,args,tys⟩=>bif Nat.beq args.toList.length 2 then To P o ρ (fun v=>K v w) else wJ P [.one (.int .i64)] (Builtin.max_ tys o.type (args.map (ev ρ))) K w
 | .call ⟨.builtin .len,args,tys⟩=>bif QG P tys.toList then wJ P [.one (.int .i64)] (Builtin.len_ tys o.type (args.map (ev ρ))) K w else To P o ρ (fun v=>K v w)
 | .call ⟨.builtin .append,args,tys⟩=>match args.toList,tys.toList with
  | [s,x],[t,t']=>match ev ρ s with
   | .slice a n c=>bz P t t' ⟨a,n,c⟩ (ev ρ x) (fun s' w'=>K (.slice s'.a s'.len s'.cap) w') w
   | _=>False
  | _,_=>False
 | .call ⟨.builtin .copy,args,tys⟩=>match args.toList,tys.toList with
  | [s,x],[t,t']=>match ev ρ s with
   | .slice a n c=>eA P t t' ⟨a,n,c⟩ (ev ρ x) (fun n w'=>K (.int .i64 n) w') w
   | _=>False
  | _,_=>False
 | _=>To P o ρ (fun v=>K v w)
def QH(P:Program)(S:Pw)(o:Oper)(ρ:Env)(K:Value->Prop):Prop:=
 match o.op with
 | .load t x=>IJ (ae S) P t (ev ρ x) K
 | .convert s d x=>MU (ae S) P s d (ev ρ x) K
 | _=>To P o ρ K
def kV(P:Program)(X:PX)(rd:Bool)(o:Oper)(ε:Operand->Value)(K:Value->Pw)(w:Wd):Prop:=
 match(execOp ε o).run P w with
 | .ok (.value v) w'=>K v w'
 | .ok .skip w'=>K undef w'
 | .ok (.enter f args) w'=>Calls P f args w' (fun e kC=>(∃v,e = .returned v/\K v kC)∨∃c,e = .panicked c/\X c kC)
 | .ok (.round l f tmps a b) w'=>rd=true/\RoundIn Fence.wide 0 P l f tmps a b w' (fun e kC=>(∃v,e = .returned v/\K v kC)∨∃c,e = .panicked c/\X c kC)
 | .halt (.panic v) w'=>X [{ v,recovered:=false }] w'
 | _=>False
section sound
variable {P:Program} {w:Wd}
theorem run_load{a:Addr}{v:Value}(h:w.cell? a=some v):(load a).run P w = .ok v w:=by
 simp[load,Sem.run,h]
theorem mQ{a:Addr}:∀(vs:List Value)(i:Nat)(acc:Array Value),(∀j (h:j < vs.length),w.cell? (a.add (i+j))=some vs[j])->
  (loadCellsFrom a i vs.length acc).run P w = .ok (acc++vs.toArray) w
 | [],i,acc,_=>by simp[loadCellsFrom]
 | v::vs,i,acc,h=>by
  have h0:=h 0 (by simp);simp only[Nat.add_zero,List.getElem_cons_zero]at h0
  have ih:=mQ vs (i+1) (acc.push v) (fun j hj=>by
   have:=h (j+1) (by simp;omega)
   simpa[Nat.add_assoc,Nat.add_comm 1 j] using this)
  simp only[List.length_cons,loadCellsFrom,Sem.run_bind,run_load h0,Result.andThen_ok,ih];congr 1;apply Array.toList_inj.1;simp
def qt:List zD->Nat
 | []=>0
 | .one _::r=>qt r+1
 | .row _ n::r=>qt r+n
theorem EZ(k:IntKind):∀l:List Value,uZ k l<=l.length
 | []=>by simp[uZ]
 | v::r=>by
  have:=EZ k r
  cases v <;> simp only[uZ,List.length_cons] <;> first | omega | (split <;> omega)
theorem oD:∀(n:Nat)(l:List Value),l.length<=n->qt (ES n l)=l.length
 | 0,l,h=>by simp at h;subst h;rfl
 | n+1,[],_=>rfl
 | n+1,v::vs,h=>by
  have hvs:vs.length<=n:=by simp at h;omega
  cases v <;> simp only[ES,qt,oD n vs hvs,List.length_cons]
  rename_i k z;split
  .rename_i h8;have hr:=EZ k (.int k z::vs);simp only[List.length_cons]at hr;rw[qt,oD n _ (by simp;omega)];simp;omega
  .rw[qt,oD n vs hvs]
theorem vd{C:Addr->Value->Prop}{a:Addr}:∀(l:List zD)(i:Nat)(K:List Value->Prop),TT C a l i K->
  ∃vs,vs.length=qt l/\(∀j (h:j < vs.length),C (a.add (i+j)) vs[j])/\K vs
 | [],i,K,h=>⟨[],rfl,by simp,h⟩
 | .one s::r,i,K,h=>by
  obtain⟨x,hx,h⟩:=h;obtain⟨vs,h1,h2,h3⟩:=vd r (i+1) _ h;refine⟨s.mk x::vs,by simp[qt,h1],?_,h3⟩;intro j hj
  cases j with
  | zero=>exact hx
  | succ j=>
   have:=h2 j (by simp at hj;omega);simp only[List.getElem_cons_succ]
   rwa [show i+(j+1)=i+1+j from by omega]
 | .row k n::r,i,K,h=>by
  obtain⟨l,hl,hc,h⟩:=h;obtain⟨vs,h1,h2,h3⟩:=vd r (i+n) _ h;refine⟨l.map (Value.int k)++vs,by simp[qt,h1,hl];omega,?_,h3⟩;intro j hj;by_cases fh:j < l.length
  .rw[List.getElem_append_left (by simpa using fh)];simpa using hc j fh
  .rw[List.getElem_append_right (by simpa using fh)];have:=h2 (j - l.length) (by simp at hj;omega);simp only[List.length_map]
   rwa [show i+n+(j - l.length)=i+j from by omega]at this
theorem sZ{C:Addr->Value->Prop}{t:TypeId}{x:Value}{K:Value->Prop}(h:IJ C P t x K) :
  ∃v,(∀w:Wd,(∀a v,C a v->w.cell? a=some v)->(Instr.loadAt t x).run P w = .ok v w)/\K v:=by
 unfold IJ at h;split at h
 .rename_i a;unfold wF at h;split at h
  .rename_i s heq;obtain⟨y,hy,hk⟩:=h;refine⟨_,fun w hc=>?_,hk⟩;split at heq
   .rename_i i d hi hd;split at heq
    .rename_i zs hz;cases hb:(kU d && Nat.beq i.size zs.size) <;> rw[hb]at heq <;> cases heq
    .rename_i z hz
     cases hb:kU d with
     | true=>rw[hb]at heq;cases heq
     | false=>simp only[Instr.loadAt,Instr.sureAddr,loadVar,Sem.run_bind,Sem.run_pure,Result.andThen_ok,yd hd,hb,Bool.false_eq_true,if_false,run_load (hc _ _ hy)]
    .cases heq
   .cases heq
  .rename_i l heq;obtain⟨vs,h1,h2,hk⟩:=vd l 0 _ h;refine⟨_,fun w hc=>?_,hk⟩;split at heq
   .rename_i i d hi hd;split at heq
    .rename_i zs hz
     cases hb:(kU d && Nat.beq i.size zs.size) with
     | false=>rw[hb]at heq;cases heq
     | true=>
      rw[hb]at heq;simp only[cond_true,Ty.agg.injEq]at heq;simp only[Bool.and_eq_true,Nat.beq_eq]at hb;have hlen:vs.length=i.size:=by rw[h1,<- heq,oD _ _ (by simp),Array.length_toList,hb.2]
      have:=mQ (P:=P) (w:=w) (a:=a) vs 0 #[] (fun j hj=>hc _ _ (h2 j hj));rw[hlen]at this;simp only[Instr.loadAt,Instr.sureAddr,loadVar,Sem.run_bind,Sem.run_pure,Result.andThen_ok,yd hd,hb.1,if_true,bK hi,loadCells,this];simp
    .rename_i z hz;cases hb:kU d <;> rw[hb]at heq <;> cases heq
    .cases heq
   .cases heq
  .exact h.elim
 .exact h.elim
theorem run_store{a:Addr}{v old:Value}(hv:aN v=true)(hc:w.cell? a=some old)(hf:w.frozen? a=false) :
  (store a v).run P w = .ok () (w.setCell a v):=by
 cases v <;> simp only[aN,Bool.false_eq_true]at hv <;> simp[store,Sem.run,hc,hf]
theorem E_{b off:Nat}{cs:Array Value}{T:TypeId}{fz:Nat×Nat}(hb:w.heap[b]? = some (.cells cs T fz))(hu:fz.2<=off∨off+1<=fz.1∨fz.2<=fz.1) :
  w.frozen? ⟨b,off,none⟩=false:=by
 simp only[World.frozen?,hb];obtain⟨lo,hi⟩:=fz;simp at hu ⊢;omega
theorem BV{b off:Nat}{cs:Array Value}{T:TypeId}{fz:Nat×Nat}{v:Value}(hb:w.heap[b]? = some (.cells cs T fz)) :
  w.setCell ⟨b,off,none⟩ v=World.cQ w b (.cells ⟨cs.toList.set off v⟩ T fz):=by
 unfold World.setCell World.cQ;congr 1;apply Array.ext_getElem?;intro i;simp only[Array.getElem?_modify,Array.getElem?_setIfInBounds];by_cases e:b=i
 .subst e;obtain⟨cL,_⟩:=Array.getElem?_eq_some_iff.1 hb;simp only[if_true,hb,Option.map_some,cL];congr 2;simp;apply Array.toList_inj.1;simp
 .simp[e]
theorem ay{a:Addr}(h:a.spot=none)(i:Nat):a.add i=⟨a.block,a.off+i,none⟩:=by
 unfold Addr.add;split
 .rename_i e;subst e;cases a;simp_all
 .rfl
theorem Fa{a:Addr}{v:Value}{K:Pw}(h:aF w a v K):∃w',(store a v).run P w = .ok () w'/\K w':=by
 obtain⟨cs,T,fz,hb,hs,ho,hu,hv,hk⟩:=h;refine⟨_,?_,hk _ rfl⟩;have ea:a=⟨a.block,a.off,none⟩:=by cases a;simp_all
 have hc:w.cell? ⟨a.block,a.off,none⟩=some cs[a.off]:=by simp[World.cell?,hb,ho]
 have:=run_store (P:=P) hv hc (E_ hb hu);rw[BV hb]at this;rw[ea];exact this
theorem dy{b:Nat}{o o':Obj}(hb:w.heap[b]? = some o):(World.cQ w b o').heap[b]? = some o':=by
 obtain⟨cL,_⟩:=Array.getElem?_eq_some_iff.1 hb;simp[World.cQ,cL]
theorem Ea{b:Nat}{o o':Obj}:World.cQ (World.cQ w b o) b o'=World.cQ w b o':=by
 simp[World.cQ,Array.setIfInBounds_setIfInBounds]
theorem oE{b:Nat}{T:TypeId}{fz:Nat×Nat}:∀(vs:List Value)(w:Wd)(cs:Array Value)(off i:Nat),w.heap[b]? = some (.cells cs T fz)->
  off+i+vs.length<=cs.size->Uf fz (off+i) vs.length->(∀v∈vs,aN v=true)->
  (storeCells ⟨b,off,none⟩ vs i).run P w = .ok () (World.cQ w b (.cells ⟨setL cs.toList (off+i) vs⟩ T fz))
 | [],w,cs,off,i,hb,_,_,_=>by
  have:World.cQ w b (.cells ⟨setL cs.toList (off+i) []⟩ T fz)=w:=by
   unfold World.cQ setL
   have e:w.heap.setIfInBounds b (.cells ⟨cs.toList⟩ T fz)=w.heap:=by
    apply Array.ext_getElem?;intro j;simp only[Array.getElem?_setIfInBounds];split
    .rename_i e;subst e;obtain⟨cL,he⟩:=Array.getElem?_eq_some_iff.1 hb;simp[cL,he]
    .rfl
   rw[e]
  rw[this];simp[storeCells]
 | v::vs,w,cs,off,i,hb,hl,hu,hv=>by
  simp only[List.length_cons]at hl hu;have ho:off+i < cs.size:=by omega
  have hc:w.cell? ⟨b,off+i,none⟩=some cs[off+i]:=by simp[World.cell?,hb,ho]
  have h1:=run_store (P:=P) (hv v (by simp)) hc (E_ hb (by unfold Uf at hu;omega));rw[BV hb]at h1;have ih:=oE vs (World.cQ w b (.cells ⟨cs.toList.set (off+i) v⟩ T fz)) ⟨cs.toList.set (off+i) v⟩ off (i+1) (dy hb) (by simp;omega) (by unfold Uf at *;omega) (fun u hu=>hv u (by simp[hu]));rw[Ea]at ih;simp only[storeCells,Sem.run_bind,ay (a:=⟨b,off,none⟩) rfl,h1,Result.andThen_ok];exact ih
theorem GD{t:TypeId}{x v:Value}{K:Pw}(h:Lr P t x v K w):∃w',(Instr.storeAt t x v).run P w = .ok () w'/\K w':=by
 unfold Lr at h;split at h
 .rename_i a i hi
  have one:∀{v:Value},aN v=true->Nat.beq i.size 1=true->aF w a v K->∃w',(Instr.storeAt t (.pointer (some a)) v).run P w = .ok () w'/\K w':=fun {v} hv hz h=>by
   have Ol:i.size=1:=Nat.eq_of_beq_eq_true hz;obtain⟨w',h1,h2⟩:=Fa (P:=P) h;refine⟨w',?_,h2⟩;have ec:v.cells=#[v]:=by cases v <;> first | rfl | cases hv
   have e:¬ (v.cells.size≠i.size):=by rw[ec];simp[Ol]
   simp only[Instr.storeAt,Instr.sureAddr,storeVar,Sem.run_bind,Sem.run_pure,Result.andThen_ok,bK hi];rw[if_neg e,ec];simp only[storeCells,Sem.run_bind,Addr.add,if_true,h1,Result.andThen_ok,Sem.run_pure]
  cases hvt:yc P t with
  | true=>
   rw[hvt]at h;simp only[cond_true]at h
   cases hz:Nat.beq i.size 1 with
   | false=>rw[hz]at h;exact h.elim
   | true=>
    rw[hz]at h;simp only[cond_true]at h;obtain⟨_,_,_,_,_,_,_,hv,_⟩:=id h;exact one hv hz h
  | false=>
  rw[hvt]at h;simp only[cond_false]at h;split at h
  .rename_i cs;obtain⟨hl,cs0,T,fz,hb,hs,ho,hu,hv,hk⟩:=h;refine⟨_,?_,hk _ rfl⟩;have:=oE (P:=P) cs.toList w cs0 a.off 0 hb (by simpa using ho) hu hv;simp only[Instr.storeAt,Instr.sureAddr,storeVar,Sem.run_bind,Sem.run_pure,Result.andThen_ok,bK hi];have e:¬ ((Value.agg cs).cells.size≠i.size):=by simp only[Value.cells];simpa using hl
   rw[if_neg e];have ea:a=⟨a.block,a.off,none⟩:=by cases a;simp_all
   rw[ea];simpa[Value.cells] using this
  .rename_i bC
   cases hz:Nat.beq i.size 1 with
   | false=>rw[hz]at h;exact h.elim
   | true=>
    rw[hz]at h;have Ol:i.size=1:=Nat.eq_of_beq_eq_true hz;obtain⟨w',h1,h2⟩:=Fa (P:=P) h;refine⟨w',?_,h2⟩;have ec:v.cells=#[v]:=by cases v <;> first | rfl | exact absurd rfl (bC _)
    have e:¬ (v.cells.size≠i.size):=by rw[ec];simp[Ol]
    simp only[Instr.storeAt,Instr.sureAddr,storeVar,Sem.run_bind,Sem.run_pure,Result.andThen_ok,bK hi];rw[if_neg e,ec];simp only[storeCells,Sem.run_bind,Addr.add,if_true,h1,Result.andThen_ok,Sem.run_pure]
 .exact h.elim
theorem eY{e:TypeId}{cells:Array Value}:(newRow e cells).run P w = .ok ⟨w.heap.size,0,none⟩ (World.cD w (.cells cells e)):=by
 simp[newRow,newObj,Sem.run,World.cD]
theorem uO(f:Value->ByteArray->Sem (ForInStep ByteArray))(hf:∀n s,f (.int .u8 n) s=pure (ForInStep.yield (s.push (UInt8.ofNat n.toNat)))):∀(ns:List Int)(acc:ByteArray)(w:Wd),
  (forIn (ns.map (Value.int .u8)).toArray acc f).run P w = .ok ⟨(acc.data.toList++ns.map (fun n=>UInt8.ofNat n.toNat)).toArray⟩ w
 | [],acc,w=>by simp
 | n::ns,acc,w=>by
  have ih:=uO f hf ns (acc.push (UInt8.ofNat n.toNat)) w;simp only[List.forIn_toArray,List.map_cons,List.forIn_cons,hf,Sem.run_bind,Sem.run_pure,Result.andThen_ok]at ih ⊢;rw[ih];simp[ByteArray.push,List.append_assoc]
theorem Lt{C:Addr->Value->Prop}{s:Sl}{K:ByteArray->Prop}(h:su C s K) :
  ∃bs,(∀w:Wd,(∀a v,C a v->w.cell? a=some v)->(Conv.bytesToString s.v).run P w = .ok (.string bs) w)/\K bs:=by
 obtain⟨bs,⟨h1,h2,h3⟩,hk⟩:=h;refine⟨_,fun w hc=>?_,hk⟩;obtain⟨sa,n,c⟩:=s;simp only at h1 h2 h3
 cases sa with
 | none=>
  have:=h3 rfl;subst this;simp[Conv.bytesToString];rfl
 | some a=>
  have hex:∀i (h:i < bs.length),∃n,w.cell? (a.add i)=some (.int .u8 n)/\UInt8.ofNat n.toNat=bs[i]:=fun i h=>by
   obtain⟨a',m,e,hca,hm⟩:=h2 i h
   cases e
   exact⟨m,hc _ _ hca,hm⟩
  have Zn:∃ns:List Int,ns.length=bs.length/\∀i (h:i < ns.length) (h':i < bs.length),w.cell? (a.add i)=some (.int .u8 ns[i])/\UInt8.ofNat ns[i].toNat=bs[i]:=by
   clear h1 h2 h3 hk;refine⟨(List.finRange bs.length).map fun(i:Fin bs.length)=>Classical.choose (hex i.1 i.2),by simp,?_⟩;intro i h h';simp only[List.getElem_map,List.getElem_finRange];exact Classical.choose_spec (hex i h')
  obtain⟨ns,hl,Zn⟩:=Zn
  have e1:ns.map (fun n=>UInt8.ofNat n.toNat)=bs:=by
   apply List.ext_getElem (by simp[hl]);intro i h h';simp only[List.getElem_map];exact(Zn i (by simpa using h) h').2
  have VD:=mQ (P:=P) (w:=w) (a:=a) (ns.map (Value.int .u8)) 0 #[] (fun j hj=>by
   simp only[Nat.zero_add,List.getElem_map]
   exact(Zn j (by simpa using hj) (by rw[<- hl];simpa using hj)).1)
  have e2:(ns.map (Value.int .u8)).length=n:=by rw[List.length_map,hl,h1]
  rw[e2]at VD;simp only[Conv.bytesToString,loadCells,Sem.run_bind,VD,Result.andThen_ok,Array.empty_append];rw[uO _ (fun n s=>rfl)];simp[e1,ByteArray.empty,ByteArray.emptyWithCapacity];rfl
theorem zG{C:Addr->Value->Prop}{src dst:TypeId}{x:Value}{K:Value->Prop}(h:MU C P src dst x K) :
  ∃v,(∀w:Wd,(∀a v,C a v->w.cell? a=some v)->(convert src dst x).run P w = .ok v w)/\K v:=by
 unfold MU at h
 cases hb:Ls P src dst with
 | false=>
  rw[hb]at h;obtain⟨v,h1,h2⟩:=zE h;exact⟨v,fun w _=>h1 w,h2⟩
 | true=>
  rw[hb]at h;simp only[cond_true]at h;split at h
  .rename_i a n c;obtain⟨bs,h1,h2⟩:=Lt (P:=P) h;refine⟨_,fun w hc=>?_,h2⟩;unfold Ls at hb;split at hb
   .rename_i e hs hd;split at hb
    .rename_i he;simp only[convert,Sem.run_bind,aD hs,aD hd,aD he,Result.andThen_ok];exact h1 w hc
    .cases hb
   .cases hb
  .exact h.elim
end sound
end Go.V
