/- Texts for LVaultNew, part 3. -/
import Derived.Laws.Sem
import Derived.Laws.StructEq
import Derived.Test.YtiigcapldngijaaGreatQn2
namespace Go.V
def Ar(k:IntKind)(e:Int)(K:Int->Prop):Prop:=∀z,z=k.wrap e->K z
def Nm(e:Int)(K:Int->Prop):Prop:=∀z,z=e->K z
def If(b:Bool)(A B:Prop):Prop:=match b with
 | true=>A
 | false=>B
theorem If.out{b:Bool}{A B:Prop}(h:If b A B):(b=true->A)/\(b=false->B):=by
 cases b
 .exact⟨(fun e=>by cases e),fun _=>h⟩
 .exact⟨fun _=>h,(fun e=>by cases e)⟩
theorem If.mk{b:Bool}{A B:Prop}(h:b=true->A)(k:b=false->B):If b A B:=by cases b;exact k rfl;exact h rfl
def Nn(p:Option Addr)(K:Addr->Prop):Prop:=∃a,p=some a/\K a
def bI(op:BinOp)(k:IntKind)(x y:Int):Int:=
 match op with
 | .and=>k.wrap (BitVec.ofInt k.bits x &&& BitVec.ofInt k.bits y).toNat
 | .or=>k.wrap (BitVec.ofInt k.bits x ||| BitVec.ofInt k.bits y).toNat
 | .xor=>k.wrap (BitVec.ofInt k.bits x ^^^ BitVec.ofInt k.bits y).toNat
 | _=>k.wrap (BitVec.ofInt k.bits x &&& ~~~BitVec.ofInt k.bits y).toNat
def Ix(base:Option Addr)(len:Nat)(i:Int)(sz:Nat)(K:Addr->Prop):Prop:=
 ∃a,base=some a/\0<=i/\i < (len:Int)/\K (a.add (i.toNat * sz))
def h_(a:Option Addr)(m l sz:Nat):Option Addr:=if m=l then a else a.map (·.add (l * sz))
def Cut(s:Sl)(lo hi mx:Int)(sz:Nat)(K:Sl->Prop):Prop:=
 0<=lo/\lo<=hi/\hi<=mx/\mx<=(s.cap:Int)/\∀s',s'=⟨h_ s.a mx.toNat lo.toNat sz,(hi - lo).toNat,(mx - lo).toNat⟩->K s'
def aeK(s:ByteArray)(lo hi:Int)(K:ByteArray->Prop):Prop:=
 0<=lo/\lo<=hi/\hi<=(s.size:Int)/\K (s.extract lo.toNat hi.toNat)
def CX(x y:Int):Int:=if y > x then y else x
def KI(x y:Int):Int:=if y < x then y else x
def ace(b:Bool)(A B:Prop):Prop:=match b with
 | true=>A
 | false=>B
def kk(k k':IntKind)(A:Prop):Prop:=if k=k' then A else False
def SI(P:Program):Nat->List Value->List Value->List Field->Option Bool
  | 0,_,_,_=>none
  | _+1,_,_,[]=>some true
  | n + 1, cs, ds, f :: r=> if f.name = "_" then none else match P.info? f.type, P.underlying f.type with
    | some _,some (.int _)=>match cs[f.offset]?,ds[f.offset]? with
      | some (.int k a),some (.int k' b)=>if k=k' then match SI P n cs ds r with
        | some t=>some ((a == b) && t)
        | none=>none
        else none
      | _,_=>none
    | some _,some .bool=>match cs[f.offset]?,ds[f.offset]? with
      | some (.bool a),some (.bool b)=>match SI P n cs ds r with
        | some t=>some ((a == b) && t)
        | none=>none
      | _,_=>none
    | some _,some .string=>match cs[f.offset]?,ds[f.offset]? with
      | some (.string a),some (.string b)=>match SI P n cs ds r with
        | some t=>some ((a.toList == b.toList) && t)
        | none=>none
      | _,_=>none
    | some i,some (.struct fs)=>bif P.stoodInHeld f.type then none else match SI P n ((cs.drop f.offset).take i.size) ((ds.drop f.offset).take i.size) fs.toList with
      | some u=>match SI P n cs ds r with
        | some t=>some (u && t)
        | none=>none
      | none=>none
    | _,_=>none
def eqS(P:Program)(t:TypeId)(cs ds:List Value):Option Bool:=
 match P.underlying t with
 | some (.struct fs)=>bif P.eqGuardType P.depth t || P.stoodInHeld t then none else SI P 60 cs ds fs.toList
 | _=>none
def oH:Value->Bool
 | .nilIface=>true
 | _=>false
def SJ:Value->Prop
 | .nilIface=>True
 | .iface _ _=>True
 | _=>False
def Np(op:BinOp)(x:Value)(K:Value->Prop):Prop:=match op with
 | .eql=>SJ x/\K (.bool (oH x))
 | .neq=>SJ x/\K (.bool !(oH x))
 | _=>False
def Z4(x:Value)(K:Value->Prop):Prop:=match x with
 | .pointer p=>Nn p fun a=>K (.pointer (some a))
 | .iface t v=>K (.iface t v)
 | .func (.func f) a b=>K (.func (.func f) a b)
 | .func (.yield f) a b=>K (.func (.yield f) a b)
 | _=>False
def zK(P:Program)(op:BinOp)(t:TypeId)(x y:Value)(K:Value->Prop):Prop:=
 match x with
 | .int k a=>match y with
  | .int k' b=>match op with
   | .add=>kk k k' (Ar k (a+b) fun z=>K (.int k z))
   | .sub=>kk k k' (Ar k (a - b) fun z=>K (.int k z))
   | .mul=>kk k k' (Ar k (a * b) fun z=>K (.int k z))
   | .quo=>kk k k' (b≠0/\Ar k (a.tdiv b) fun z=>K (.int k z))
   | .rem=>kk k k' (b≠0/\Nm (a.tmod b) fun z=>K (.int k z))
   | .and=>kk k k' (Nm (bI .and k a b) fun z=>K (.int k z))
   | .or=>kk k k' (Nm (bI .or k a b) fun z=>K (.int k z))
   | .xor=>kk k k' (Nm (bI .xor k a b) fun z=>K (.int k z))
   | .andNot=>kk k k' (Nm (bI .andNot k a b) fun z=>K (.int k z))
   | .shl=>0<=b/\Ar k (a * 2 ^ min b.toNat k.bits) fun z=>K (.int k z)
   | .shr=>0<=b/\Nm (a.fdiv (2 ^ min b.toNat k.bits)) fun z=>K (.int k z)
   | .eql=>kk k k' (K (.bool (a == b)))
   | .neq=>kk k k' (K (.bool (a != b)))
   | .lss=>kk k k' (K (.bool (decide (a < b))))
   | .leq=>kk k k' (K (.bool (decide (a<=b))))
   | .gtr=>kk k k' (K (.bool (decide (a > b))))
   | .geq=>kk k k' (K (.bool (decide (a≥b))))
  | _=>False
 | .string a=>match y with
  | .string b=>match op with
   | .add=>((a.size+b.size:Nat):Int)<=IntKind.i64.max/\K (.string (a++b))
   | .eql=>K (.bool (a.toList == b.toList))
   | .neq=>K (.bool !(a.toList == b.toList))
   | .lss=>K (.bool (Op.bytesLess a.toList b.toList))
   | .leq=>K (.bool (Op.bytesLess a.toList b.toList || a.toList == b.toList))
   | .gtr=>K (.bool !(Op.bytesLess a.toList b.toList || a.toList == b.toList))
   | .geq=>K (.bool !(Op.bytesLess a.toList b.toList))
   | _=>False
  | _=>False
 | .bool a=>match y,P.underlying t with
  | .bool b,some .bool=>match op with
   | .eql=>K (.bool (a == b))
   | .neq=>K (.bool !(a == b))
   | _=>False
  | _,_=>False
 | .pointer a=>match y,P.underlying t with
  | .pointer none,some (.pointer _)=>match op with
   | .eql=>K (.bool a.isNone)
   | .neq=>K (.bool !a.isNone)
   | _=>False
  | _,_=>False
 | .slice a _ _=>match y,P.underlying t with
  | .slice none _ _,some (.slice _)=>match op with
   | .eql=>K (.bool a.isNone)
   | .neq=>K (.bool !a.isNone)
   | _=>False
  | _,_=>False
 | .agg cs=>match y with
  | .agg ds=>match op with
   | .eql=>match eqS P t cs.toList ds.toList with
    | some b=>K (.bool b)
    | none=>False
   | .neq=>match eqS P t cs.toList ds.toList with
    | some b=>K (.bool !b)
    | none=>False
   | _=>False
  | _=>False
 | _=>False
def unP(op:UnOp)(x:Value)(K:Value->Prop):Prop:=
 match op,x with
 | .not,.bool b=>K (.bool !b)
 | .neg,.int k n=>Ar k (0 - n) fun z=>K (.int k z)
 | .xor,.int k n=>Nm (bI .xor k (if k.signed then -1 else k.max) n) fun z=>K (.int k z)
 | _,_=>False
def Pp(P:Program)(src dst:TypeId)(x:Value)(K:Value->Prop):Prop:=
 match P.underlying src with
 | none=>False
 | some _=>match P.underlying dst,x with
  | some (.int k),.int _ n=>Ar k n fun z=>K (.int k z)
  | some .string,.string s=>K (.string s)
  | _,_=>False
def Nq(P:Program)(s:TypeId)(x:Value)(f:Nat)(K:Value->Prop):Prop:=
 match P.underlying s with
 | some (.struct fs)=>match fs[f]? with
  | some fd=>match P.info? fd.type with
   | some i=>match x with
    | .pointer (some a)=>bif Nat.beq i.size 0 then False else K (.pointer (some (a.add fd.offset)))
    | _=>False
   | none=>False
  | none=>False
 | _=>False
def Nr(P:Program)(t:TypeId)(x i:Value)(K:Value->Prop):Prop:=
 match i with
 | .int _ n=>match P.underlying t,x with
  | some (.slice e),.slice base len _=>match P.info? e with
   | some ie=>Ix base len n ie.size fun a=>K (.pointer (some a))
   | none=>False
  | some (.array len e),.pointer (some a)=>match P.info? e with
   | some ie=>0<=n/\n < (len:Int)/\K (.pointer (some (a.add (n.toNat * ie.size))))
   | none=>False
  | _,_=>False
 | _=>False
def Hs:Option Value->Option Int
 | none=>some 0
 | some (.int _ n)=>some n
 | _=>none
def oI(d:Nat):Option Value->Option Int
 | none=>some (d:Int)
 | some (.int _ n)=>some n
 | _=>none
def Ns(P:Program)(t:TypeId)(x:Value)(lo hi mx:Option Value)(K:Value->Prop):Prop:=
 match P.underlying t,x with
 | some (.slice e),.slice a n c=>match P.info? e,Hs lo,oI n hi,oI c mx with
  | some ie,some l,some h,some m=>match mx,hi with
   | some _,none=>False
   | _,_=>Cut ⟨a,n,c⟩ l h m ie.size fun s=>K (.slice s.a s.len s.cap)
  | _,_,_,_=>False
 | some (.array n e),.pointer (some a)=>match P.info? e,Hs lo,oI n hi,oI n mx with
  | some ie,some l,some h,some m=>match mx,hi with
   | some _,none=>False
   | _,_=>Cut ⟨some a,n,n⟩ l h m ie.size fun s=>K (.slice s.a s.len s.cap)
  | _,_,_,_=>False
 | some .string,.string s=>match mx,Hs lo,oI s.size hi with
  | none,some l,some h=>aeK s l h fun s=>K (.string s)
  | _,_,_=>False
 | _,_=>False
def cV(v:Value):List Value:=match v with
 | .agg cs=>cs.toList
 | v=>[v]
def setL:List Value->Nat->List Value->List Value
 | cs,_,[]=>cs
 | cs,o,v::vs=>setL (cs.set o v) (o+1) vs
def ql(P:Program)(fs:Array Field)(ρ:Env):List Value->List (Nat×Operand)->Option (List Value)
 | cs,[]=>some cs
 | cs,(i,x)::r=>match fs[i]? with
  | some f=>match P.info? f.type with
   | some j=>bif Nat.beq (cV (ev ρ x)).length j.size && Nat.ble (f.offset+j.size) cs.length then ql P fs ρ (setL cs f.offset (cV (ev ρ x))) r else none
   | none=>none
  | none=>none
def acf:Bb->Bool
 | .row _ _=>true
 | _=>false
def Qp(P:Program)(t:TypeId):Bool:=match wD P t with
 | .agg l=>l.any acf
 | _=>false
def Eu(P:Program)(fs:Array Field)(ρ:Env):List Value->List (Nat×Operand)->(List Value->Prop)->Prop
 | cs,[],K=>K cs
 | cs,(i,x)::r,K=>match fs[i]? with
  | some f=>match P.info? f.type with
   | some j=>bif Qp P f.type then(cV (ev ρ x)).length=j.size/\(bif Nat.ble (f.offset+j.size) cs.length then Eu P fs ρ (cs.take f.offset++(cV (ev ρ x)++cs.drop (f.offset+j.size))) r K else False)
    else bif Nat.beq (cV (ev ρ x)).length j.size && Nat.ble (f.offset+j.size) cs.length then Eu P fs ρ (setL cs f.offset (cV (ev ρ x))) r K else False
   | none=>False
  | none=>False
def cB:Value->Bool
 | .agg _=>false
 | .tuple _=>false
 | _=>true
def Bc(P:Program)(t:TypeId):Bool:=match wD P t with
 | .one .val=>true
 | _=>false
def Z5:Bb->Bool
 | .one .val=>true
 | _=>false
def acg(P:Program)(t:TypeId):Bool:=match wD P t with
 | .agg l=>l.any Z5
 | _=>false
def Ev(P:Program)(fs:Array Field)(ρ:Env):List Value->List (Nat×Operand)->(List Value->Prop)->Prop
 | cs,[],K=>K cs
 | cs,(i,x)::r,K=>match fs[i]? with
  | some f=>match P.info? f.type with
   | some j=>bif Bc P f.type then cB (ev ρ x)=true/\(bif Nat.beq 1 j.size && Nat.ble (f.offset+j.size) cs.length then Ev P fs ρ (setL cs f.offset [ev ρ x]) r K else False)
    else bif Nat.beq (cV (ev ρ x)).length j.size && Nat.ble (f.offset+j.size) cs.length then Ev P fs ρ (setL cs f.offset (cV (ev ρ x))) r K else False
   | none=>False
  | none=>False
def Nt(P:Program)(t:TypeId)(ρ:Env)(parts:List (Nat×Operand))(K:Value->Prop):Prop:=
 match P.info? t,P.underlying t with
 | some i,some (.struct fs)=>match i.zero with
  | some (.agg zs)=>bif fs.toList.all (fun f=>(P.info? f.type).isSome) then(bif Qp P t then Eu P fs ρ zs.toList parts fun cs=>K (.agg cs.toArray) else bif acg P t then Ev P fs ρ zs.toList parts fun cs=>K (.agg cs.toArray) else match ql P fs ρ zs.toList parts with
   | some cs=>K (.agg cs.toArray)
   | none=>False)
   else False
  | _=>False
 | _,_=>False
def SK(P:Program)(s:TypeId)(x:Value)(f:Nat)(K:Value->Prop):Prop:=
 match P.underlying s,x with
 | some (.struct fs),.agg cs=>match fs[f]? with
  | some fd=>match P.info? fd.type,P.underlying fd.type with
   | some i,some d=>bif lW d then K (.agg ((cs.toList.drop fd.offset).take i.size).toArray) else match cs.toList[fd.offset]? with
    | some v=>K v
    | none=>False
   | _,_=>False
  | none=>False
 | _,_=>False
def Nu(x i:Value)(K:Value->Prop):Prop:=
 match x,i with
 | .string s,.int _ n=>∃b,0<=n/\s.data.toList[n.toNat]? = some b/\K (.int .u8 (b.toNat:Int))
 | _,_=>False
def Z6(P:Program)(t:TypeId)(x:Value)(K:Value->Prop):Prop:=
 match P.underlying t,x with
 | some .string,.string s=>K (.int .i64 (s.size:Int))
 | some (.array n _),_=>K (.int .i64 (n:Int))
 | some (.slice _),.slice _ n _=>K (.int .i64 (n:Int))
 | some (.pointer e),_=>match P.underlying e with
  | some (.array n _)=>K (.int .i64 (n:Int))
  | _=>False
 | _,_=>False
def Z7(P:Program)(t:TypeId)(x:Value)(K:Value->Prop):Prop:=
 match P.underlying t,x with
 | some (.slice _),.slice _ _ n=>K (.int .i64 (n:Int))
 | _,_=>False
def R_(P:Program)(o:Oper)(ρ:Env)(K:Value->Prop):Prop:=
 match o.op with
 | .move x=>K (ev ρ x)
 | .assign x=>K (ev ρ x)
 | .pick c a b=>match ev ρ c with
  | .bool t=>ace t (K (ev ρ a)) (K (ev ρ b))
  | _=>False
 | .nilCheck x=>Z4 (ev ρ x) K
 | .binOp op t x y _=>match y with
  | .const .nilIface=>match P.underlying t with
   | some (.interface _)=>Np op (ev ρ x) K
   | _=>False
  | y=>zK P op t (ev ρ x) (ev ρ y) K
 | .unOp op _ x=>unP op (ev ρ x) K
 | .convert src dst x=>Pp P src dst (ev ρ x) K
 | .fieldAddr s x f=>Nq P s (ev ρ x) f K
 | .field s x f=>SK P s (ev ρ x) f K
 | .indexAddr t x i=>Nr P t (ev ρ x) (ev ρ i) K
 | .index t x i=>match P.underlying t with
  | some .string=>Nu (ev ρ x) (ev ρ i) K
  | _=>False
 | .slice t x lo hi mx=>Ns P t (ev ρ x) (lo.map (ev ρ)) (hi.map (ev ρ)) (mx.map (ev ρ)) K
 | .build t parts=>Nt P t ρ parts.toList K
 | .makeFunc (.func f) first captured=>K (.func (.func f) (first.toList.map (ev ρ)).toArray (captured.toList.map (ev ρ)).toArray)
 | .makeInterface t x=>match P.underlying t with
  | some (.interface _)=>False
  | some _=>K (.iface t (ev ρ x))
  | none=>False
 | .sliceToArrayPointer t x=>match P.underlying t,ev ρ x with
  | some (.array n _),.slice a len _=>n<=len/\Nn a fun a=>K (.pointer (some a))
  | _,_=>False
 | .extract x i=>match ev ρ x with
  | .tuple vs=>match vs.toList[i]? with
   | some v=>K v
   | none=>False
  | _=>False
 | .call ⟨.builtin b,args,argTypes⟩=>match b,args.toList,argTypes.toList with
  | .len,[x],[t]=>Z6 P t (ev ρ x) K
  | .cap,[x],[t]=>Z7 P t (ev ρ x) K
  | .max,[x,y],_=>match ev ρ x,ev ρ y with
   | .int k a,.int _ b=>Nm (CX a b) fun z=>K (.int k z)
   | _,_=>False
  | .min,[x,y],_=>match ev ρ x,ev ρ y with
   | .int k a,.int _ b=>Nm (KI a b) fun z=>K (.int k z)
   | _,_=>False
  | _,_,_=>False
 | _=>False
def SL(P:Program)(o:Oper)(ε:Operand->Value)(v:Value):Prop:=∀w,(execOp ε o).run P w = .ok (.value v) w
section sound
variable {P:Program} {w:Wd}
theorem aD{t:TypeId}{d:TypeDesc}(h:P.underlying t=some d):(underlying t).run P w = .ok d w:=by
 simp[underlying,program,Sem.run,h,pure,bind,Sem.bind]
theorem kC{t:TypeId}{i:TypeInfo}(h:P.info? t=some i):(typeInfo t).run P w = .ok i w:=by
 simp[typeInfo,program,Sem.run,h,pure,bind,Sem.bind]
theorem bL{t:TypeId}{i:TypeInfo}(h:P.info? t=some i):(sizeOf t).run P w = .ok i.size w:=by
 simp[sizeOf,kC h]
theorem Bd{t:TypeId}{d:TypeDesc}(h:P.underlying t=some d):(isAgg t).run P w = .ok (lW d) w:=by
 unfold isAgg;simp only[Sem.run_bind,aD h,Result.andThen_ok]
 cases d <;> rfl
theorem ja{t:TypeId}{i:TypeInfo}{z:Value}(h:P.info? t=some i)(hz:i.zero=some z):(zeroValue t).run P w = .ok z w:=by
 simp[zeroValue,kC h,hz]
theorem gh{k k':IntKind}{A:Prop}(h:kk k k' A):k=k'/\A:=by
 unfold kk at h;split at h
 .exact⟨‹_›,h⟩
 .exact h.elim
theorem Ar.out{k:IntKind}{e:Int}{K:Int->Prop}(h:Ar k e K):K (k.wrap e):=h _ rfl
theorem Nm.out{e:Int}{K:Int->Prop}(h:Nm e K):K e:=h _ rfl
def iG(P:Program)(s:Sem Value)(K:Value->Prop):Prop:=∃v,(∀w,s.run P w = .ok v w)/\K v
theorem iG.pure{s:Sem Value}{v:Value}{K:Value->Prop}(hs:s=Sem.pure v)(h:K v):iG P s K:=⟨v,fun w=>by rw[hs];rfl,h⟩
theorem Gp{op:BinOp}{t:TypeId}{x y:Operand}{a b:Value}(h:∀c d,¬ (a = .agg c/\b = .agg d))(h2:a ≠ .nilIface) :
  (eqGuard op t x y a b).run P w = .ok () w:=by
 unfold eqGuard
 cases op <;> cases a <;> cases b <;> first | rfl | (exact absurd rfl h2) | (exact absurd ⟨rfl,rfl⟩ (h _ _)) | (simp;rfl)
theorem Ew{t:TypeId}{a b:Bool}(hu:P.underlying t=some .bool):(Op.equal t (.bool a) (.bool b)).run P w = .ok (a == b) w:=by
 show(Op.equalIn (9999+1) t (.bool a) (.bool b)).run P w=_;rw[Op.equalIn];simp only[Sem.run_bind,aD hu,Result.andThen_ok];rfl
theorem Ht{t e:TypeId}{a:Option Addr}(hu:P.underlying t=some (.pointer e)):(Op.equal t (.pointer a) (.pointer none)).run P w = .ok a.isNone w:=by
 show(Op.equalIn (9999+1) t (.pointer a) (.pointer none)).run P w=_;rw[Op.equalIn];simp only[Sem.run_bind,aD hu,Result.andThen_ok];cases a <;> rfl
theorem KJ{t e:TypeId}{a:Option Addr}{n c n' c':Nat}(hu:P.underlying t=some (.slice e)):(Op.equal t (.slice a n c) (.slice none n' c')).run P w = .ok a.isNone w:=by
 show(Op.equalIn (9999+1) t (.slice a n c) (.slice none n' c')).run P w=_;rw[Op.equalIn];simp only[Sem.run_bind,aD hu,Result.andThen_ok];cases a <;> rfl
theorem zL{t:TypeId}{i:TypeInfo}{d:TypeDesc}{cs:Array Value}{off:Nat}(hi:P.info? t=some i)(hd:P.underlying t=some d) :
    (part t cs off).run P w=(bif lW d then .ok (.agg (cs.extract off (off+i.size))) w else match cs.toList[off]? with
      | some v=> .ok v w
      | none=> .halt (.stuck "part: no such cell") w):= by
  unfold part;simp only[Sem.run_bind,Bd hd,Result.andThen_ok]
  cases lW d with
  | true=>simp[bL hi]
  | false=>
    simp only[Bool.false_eq_true,if_false,cond_false];rw[<- Array.getElem?_toList]
    cases cs.toList[off]? <;> rfl
theorem Be:∀{n d:Nat}{cs ds:Array Value}{fs:List Field}{b:Bool}{w:Wd},n<=d->SI P n cs.toList ds.toList fs=some b->(Op.eqFields (d+1) cs ds fs).run P w = .ok b w
 | 0,_,_,_,_,_,_,_,h=>by simp[SI]at h
 | n+1,d,cs,ds,[],b,w,_,h=>by simp only[SI,Option.some.injEq]at h;subst h;simp[Op.eqFields]
 | n+1,d,cs,ds,f::r,b,w,hd,h=>by
  unfold SI at h;split at h
  .cases h
  .rename_i hn
   have key:∀{u v:Value}{q:Bool},(∀w,(part f.type cs f.offset).run P w = .ok u w)->(∀w,(part f.type ds f.offset).run P w = .ok v w)->
     (∀w,(Op.equalIn (d+1) f.type u v).run P w = .ok q w)->∀{t:Bool},SI P n cs.toList ds.toList r=some t->some (q && t)=some b->(Op.eqFields (d+1) cs ds (f::r)).run P w = .ok b w:=by
    intro u v q e1 e2 hq t ht hb
    cases hb
    simp only[Op.eqFields,ne_eq,hn,not_false_eq_true,if_true,Sem.run_bind,e1,e2,hq,Result.andThen_ok]
    cases q
    .simp
    .simp only[Bool.not_true,Bool.false_eq_true,if_false,Bool.true_and];exact Be (by omega) ht
   have one:∀{u:Value}{D:TypeDesc}{i:TypeInfo}{xs:Array Value},P.info? f.type=some i->P.underlying f.type=some D->lW D=false->xs.toList[f.offset]? = some u->∀w,(part f.type xs f.offset).run P w = .ok u w:=by
    intro u D i xs hi hD hA hu w;rw[zL hi hD,hA,hu];rfl
   split at h
   .rename_i i kk hi hD;split at h
    .rename_i k a k' b' hu hv;split at h
     .rename_i hk;subst hk;split at h
      .rename_i t ht;exact key (one hi hD rfl hu) (one hi hD rfl hv) (fun w=>run_equalIn_int w d f.type _ _ a b' hD) ht h
      .cases h
     .cases h
    .cases h
   .rename_i i hi hD;split at h
    .rename_i a b' hu hv;split at h
     .rename_i t ht;exact key (one hi hD rfl hu) (one hi hD rfl hv) (fun w=>run_equalIn_bool' w d f.type a b' hD) ht h
     .cases h
    .cases h
   .rename_i i hi hD;split at h
    .rename_i a b' hu hv;split at h
     .rename_i t ht;exact key (one hi hD rfl hu) (one hi hD rfl hv) (fun w=>run_equalIn_string w d f.type a b' hD) ht h
     .cases h
    .cases h
   .rename_i i fs hi hD
    cases hs:P.stoodInHeld f.type with
    | true=>rw[hs]at h;cases h
    | false=>
     rw[hs]at h;simp only[cond_false]at h;split at h
     .rename_i u hu;split at h
      .rename_i t ht
       have agg:∀(xs:Array Value) w,(part f.type xs f.offset).run P w = .ok (.agg ((xs.toList.drop f.offset).take i.size).toArray) w:=fun xs w=>by
        rw[zL hi hD];simp only[lW,cond_true];congr 2;apply Array.toList_inj.1;simp[List.extract,Array.toList_extract]
       refine key (agg cs) (agg ds) (fun w=>?_) ht h;have hf:P.fieldsOf f.type=fs:=by simp[Program.fieldsOf,hD]
       obtain⟨d',rfl⟩ : ∃d',d=d'+1:=⟨d - 1,by omega⟩
       rw[run_equalIn_struct w (d'+1) f.type _ _ (by rw[hf];exact hD) hs,hf];exact Be (n:=n) (d:=d') (by omega) (by simpa using hu)
      .cases h
     .cases h
   .cases h
theorem v_{t:TypeId}{cs ds:Array Value}{b:Bool}(h:eqS P t cs.toList ds.toList=some b) :
  (∀op x y w,(eqGuard op t x y (.agg cs) (.agg ds)).run P w = .ok () w)/\∀w,(Op.equalIn 10000 t (.agg cs) (.agg ds)).run P w = .ok b w:=by
 unfold eqS at h;split at h
 .rename_i fs hu
  cases hg:(P.eqGuardType P.depth t || P.stoodInHeld t) with
  | true=>rw[hg]at h;cases h
  | false=>
   rw[hg]at h;simp only[Bool.or_eq_false_iff]at hg;have hf:P.fieldsOf t=fs:=by simp[Program.fieldsOf,hu]
   refine⟨fun op x y w=>run_eqGuard_agg w op t x y cs ds hg.1,fun w=>?_⟩;rw[show(10000:Nat)=9998+1+1 from rfl,run_equalIn_struct w (9998+1) t cs ds (by rw[hf];exact hu) hg.2,hf];exact Be (n:=60) (d:=9998) (by omega) h
 .cases h
theorem Nv{op:BinOp}{t:TypeId}{x y:Operand}{ρ:Operand->Value}{K:Value->Prop}(h:zK P op t (ρ x) (ρ y) K) :
  iG P (do eqGuard op t x y (ρ x) (ρ y);binOp op t (ρ x) (ρ y)) K:=by
 have hg:∀w,(eqGuard op t x y (ρ x) (ρ y)).run P w = .ok () w:=fun w=>by
  by_cases hag:∃c d,ρ x = .agg c/\ρ y = .agg d
  .obtain⟨c,d,e1,e2⟩:=hag;rw[e1,e2]at h ⊢
   cases op <;> simp only[zK]at h <;> first | exact h.elim | skip
   all_goals
    split at h
    .rename_i b hb;exact(v_ hb).1 _ x y w
    .exact h.elim
  .refine Gp ?_ ?_
   .intro c d hcd;exact hag ⟨c,d,hcd⟩
   .intro e1;rw[e1]at h;simp[zK]at h
 suffices hh:iG P (binOp op t (ρ x) (ρ y)) K by
  obtain⟨v,hv,hk⟩:=hh;exact⟨v,fun w=>by rw[Sem.run_bind,hg w];exact hv w,hk⟩
 clear hg;generalize ρ x=a at *;generalize ρ y=b at *
 cases a with
 | int k a=>
  cases b with
  | int k' b=>
   cases op <;> simp only[zK]at h
   case add=>obtain⟨rfl,h1⟩:=gh h;exact .pure (by simp[binOp,Op.intArith];rfl) h1.out
   case sub=>obtain⟨rfl,h1⟩:=gh h;exact .pure (by simp[binOp,Op.intArith];rfl) h1.out
   case mul=>obtain⟨rfl,h1⟩:=gh h;exact .pure (by simp[binOp,Op.intArith];rfl) h1.out
   case quo=>obtain⟨rfl,hb,h1⟩:=gh h;exact .pure (by simp[binOp,Op.intDiv,hb];rfl) h1.out
   case rem=>obtain⟨rfl,hb,h1⟩:=gh h;exact .pure (by simp[binOp,Op.intDiv,hb];rfl) h1.out
   case and=>obtain⟨rfl,h1⟩:=gh h;exact .pure (by simp only[binOp,Op.intBits,ne_eq,not_true_eq_false,if_false];rfl) h1.out
   case or=>obtain⟨rfl,h1⟩:=gh h;exact .pure (by simp only[binOp,Op.intBits,ne_eq,not_true_eq_false,if_false];rfl) h1.out
   case xor=>obtain⟨rfl,h1⟩:=gh h;exact .pure (by simp only[binOp,Op.intBits,ne_eq,not_true_eq_false,if_false];rfl) h1.out
   case andNot=>obtain⟨rfl,h1⟩:=gh h;exact .pure (by simp only[binOp,Op.intBits,ne_eq,not_true_eq_false,if_false];rfl) h1.out
   case shl=>obtain⟨hb,h1⟩:=h;exact .pure (by simp only[binOp,Op.shift,if_neg (Int.not_lt.2 hb)];rfl) h1.out
   case shr=>obtain⟨hb,h1⟩:=h;exact .pure (by simp only[binOp,Op.shift,if_neg (Int.not_lt.2 hb)];rfl) h1.out
   case eql=>obtain⟨rfl,h1⟩:=gh h;exact .pure (by simp[binOp,Op.intCmp];rfl) h1
   case neq=>obtain⟨rfl,h1⟩:=gh h;exact .pure (by simp[binOp,Op.intCmp];rfl) h1
   case lss=>obtain⟨rfl,h1⟩:=gh h;exact .pure (by simp[binOp,Op.intCmp];rfl) h1
   case leq=>obtain⟨rfl,h1⟩:=gh h;exact .pure (by simp[binOp,Op.intCmp];rfl) h1
   case gtr=>obtain⟨rfl,h1⟩:=gh h;exact .pure (by simp[binOp,Op.intCmp];rfl) h1
   case geq=>obtain⟨rfl,h1⟩:=gh h;exact .pure (by simp[binOp,Op.intCmp];rfl) h1
  | _=>exact h.elim
 | string a=>
  cases b with
  | string b=>
   cases op <;> simp only[zK]at h
   case add=>exact .pure (by simp only[binOp,Op.stringOp];rw[if_neg (Int.not_lt.2 h.1)];rfl) h.2
   case eql=>exact .pure (by simp only[binOp,Op.stringOp];rfl) h
   case neq=>exact .pure (by simp only[binOp,Op.stringOp];rfl) h
   case lss=>exact .pure (by simp only[binOp,Op.stringOp];rfl) h
   case leq=>exact .pure (by simp only[binOp,Op.stringOp];rfl) h
   case gtr=>exact .pure (by simp only[binOp,Op.stringOp];rfl) h
   case geq=>exact .pure (by simp only[binOp,Op.stringOp];rfl) h
   all_goals exact h.elim
  | _=>exact h.elim
 | bool a=>
  cases b with
  | bool b=>
   simp only[zK]at h;split at h
   .rename_i b' heq hu
    cases heq
    cases op <;> simp only at h
    case eql=>exact⟨_,fun w=>by simp only[binOp,Sem.run_bind,Ew hu,Result.andThen_ok];rfl,h⟩
    case neq=>exact⟨_,fun w=>by simp only[binOp,Sem.run_bind,Ew hu,Result.andThen_ok];rfl,h⟩
    all_goals exact h.elim
   .exact h.elim
  | _=>simp[zK]at h
 | pointer a=>
  cases b with
  | pointer b=>
   simp only[zK]at h;split at h
   .rename_i e heq hu
    cases heq
    cases op <;> simp only at h
    case eql=>exact⟨_,fun w=>by simp only[binOp,Sem.run_bind,Ht hu,Result.andThen_ok];rfl,h⟩
    case neq=>exact⟨_,fun w=>by simp only[binOp,Sem.run_bind,Ht hu,Result.andThen_ok];rfl,h⟩
    all_goals exact h.elim
   .exact h.elim
  | _=>simp[zK]at h
 | slice a n c=>
  cases b with
  | slice b n' c' =>
   simp only[zK]at h;split at h
   .rename_i e heq hu
    cases heq
    cases op <;> simp only at h
    case eql=>exact⟨_,fun w=>by simp only[binOp,Sem.run_bind,KJ hu,Result.andThen_ok];rfl,h⟩
    case neq=>exact⟨_,fun w=>by simp only[binOp,Sem.run_bind,KJ hu,Result.andThen_ok];rfl,h⟩
    all_goals exact h.elim
   .exact h.elim
  | _=>simp[zK]at h
 | agg cs=>
  cases b with
  | agg ds=>
   cases op <;> simp only[zK]at h <;> first | exact h.elim | skip
   case eql=>
    split at h
    .rename_i b hb;exact⟨_,fun w=>by rw[run_eql_struct,(v_ hb).2 w];rfl,h⟩
    .exact h.elim
   case neq=>
    split at h
    .rename_i b hb;exact⟨_,fun w=>by rw[run_neq_struct,(v_ hb).2 w];rfl,h⟩
    .exact h.elim
  | _=>simp[zK]at h
 | _=>exact h.elim
theorem Qq{op:UnOp}{x:Value}{K:Value->Prop}(h:unP op x K):iG P (Op.unary op x) K:=by
 cases op <;> cases x <;> simp only[unP]at h <;> first | exact h.elim | skip
 all_goals first
  | exact .pure rfl h
  | exact .pure rfl h.out
theorem Ci{src dst:TypeId}{x:Value}{K:Value->Prop}(h:Pp P src dst x K):iG P (convert src dst x) K:=by
 unfold Pp at h
 cases hs:P.underlying src with
 | none=>simp only[hs]at h
 | some ds=>
  simp only[hs]at h;split at h
  .rename_i k k' n hd;refine⟨_,fun w=>?_,h.out⟩;unfold convert;simp only[Sem.run_bind,aD hs,aD hd,Result.andThen_ok]
   cases ds <;> rfl
  .rename_i s hd;refine⟨_,fun w=>?_,h⟩;unfold convert;simp only[Sem.run_bind,aD hs,aD hd,Result.andThen_ok]
   cases ds <;> rfl
  .exact h.elim
theorem Ic{s:TypeId}{x:Value}{f:Nat}{K:Value->Prop}(h:Nq P s x f K):iG P (Instr.fieldAt s x f) K:=by
 unfold Nq at h;split at h
 .rename_i fs hu;split at h
  .rename_i fd hf;split at h
   .rename_i i hi;split at h
    .rename_i a
     cases hz:Nat.beq i.size 0 with
     | true=>rw[hz]at h;exact h.elim
     | false=>
      rw[hz]at h;have du:i.size≠0:=fun e=>by rw[e]at hz;exact absurd hz (by decide)
      refine⟨_,fun w=>?_,h⟩;simp only[Instr.fieldAt,Sem.run_bind,aD hu,Result.andThen_ok,hf,Instr.sureAddr,Sem.run_pure,fieldPlace,bL hi,if_neg du]
    .exact h.elim
   .exact h.elim
  .exact h.elim
 .exact h.elim
theorem Ie{t:TypeId}{x i:Value}{K:Value->Prop}(h:Nr P t x i K):iG P (Instr.indexAt t x i) K:=by
 unfold Nr at h;split at h
 .rename_i k n;split at h
  .rename_i e base len cap hu;split at h
   .rename_i ie hi;obtain⟨a,rfl,h0,h1,hk⟩:=h;refine⟨_,fun w=>?_,hk⟩;simp only[Instr.indexAt,asIntOf,Sem.run_bind,Sem.run_pure,aD hu,Result.andThen_ok,if_pos (And.intro h0 h1),bL hi]
   .exact h.elim
  .rename_i len e a hu;split at h
   .rename_i ie hi;obtain⟨h0,h1,hk⟩:=h;refine⟨_,fun w=>?_,hk⟩;simp only[Instr.indexAt,asIntOf,Sem.run_bind,Sem.run_pure,aD hu,Result.andThen_ok,Instr.sureAddr,if_pos (And.intro h0 h1),bL hi]
   .exact h.elim
  .exact h.elim
 .exact h.elim
end sound
section sound
variable {P:Program} {w:Wd}
theorem Bf{v:Value}{k:IntKind}{n:Int}{y:Nat}{c:BoundsCode}(hv:v = .int k n)(h0:0<=n)(h1:n<=(y:Int)) :
  (Instr.sliceBound v y c).run P w = .ok n.toNat w:=by
 subst hv;simp only[Instr.sliceBound,asIntOf,Sem.run_bind,Sem.run_pure,Result.andThen_ok,if_pos (And.intro h0 h1)]
theorem xL{b:Bool}{len cap:Nat}{lo hi mx:Option Value}{l h m:Int}(hl:Hs lo=some l)(hh:oI len hi=some h)(hm:oI cap mx=some m)
  (hx:mx.isSome=true->hi.isSome=true) (h0:0<=l) (h1:l<=h) (h2:h<=m) (h3:m<=(cap:Int)) :
  (Instr.sliceBounds b len cap lo hi mx).run P w = .ok (l.toNat,h.toNat,m.toNat) w:=by
 have hl':(lo=none/\l=0)∨∃k,lo=some (.int k l):=by
  cases lo with
  | none=>simp only[Hs,Option.some.injEq]at hl;exact .inl ⟨rfl,hl.symm⟩
  | some v=>cases v <;> simp only[Hs,Option.some.injEq,reduceCtorEq]at hl;subst hl;exact .inr ⟨_,rfl⟩
 have hh':(hi=none/\h=len)∨∃k,hi=some (.int k h):=by
  cases hi with
  | none=>simp only[oI,Option.some.injEq]at hh;exact .inl ⟨rfl,hh.symm⟩
  | some v=>cases v <;> simp only[oI,Option.some.injEq,reduceCtorEq]at hh;subst hh;exact .inr ⟨_,rfl⟩
 have hm':(mx=none/\m=cap)∨∃k,mx=some (.int k m):=by
  cases mx with
  | none=>simp only[oI,Option.some.injEq]at hm;exact .inl ⟨rfl,hm.symm⟩
  | some v=>cases v <;> simp only[oI,Option.some.injEq,reduceCtorEq]at hm;subst hm;exact .inr ⟨_,rfl⟩
 clear hl hh hm;unfold Instr.sliceBounds;have b1:∀{k c},(Instr.sliceBound (.int k m) cap c).run P w = .ok m.toNat w:=fun {k c}=>Bf rfl (by omega) h3
 have b2:∀{k c},(Instr.sliceBound (.int k h) m.toNat c).run P w = .ok h.toNat w:=fun {k c}=>Bf rfl (by omega) (by omega)
 have b3:∀{k c},(Instr.sliceBound (.int k l) h.toNat c).run P w = .ok l.toNat w:=fun {k c}=>Bf rfl h0 (by omega)
 rcases hm' with⟨rfl,rfl⟩ | ⟨k1,rfl⟩ <;> rcases hh' with⟨rfl,rfl⟩ | ⟨k2,rfl⟩ <;> rcases hl' with⟨rfl,rfl⟩ | ⟨k3,rfl⟩ <;>
  (try simp only[Int.toNat_natCast]at b1 b2 b3) <;> simp[b1,b2,b3] <;> simp at hx
theorem ach {mx hi : Option Value} {A : Prop} (h : match mx, hi with
      | some _,none=>False
      | _,_=>A):(mx.isSome=true->hi.isSome=true)/\A:=by
  cases mx <;> cases hi <;> simp_all
theorem Ig{t:TypeId}{x:Value}{lo hi mx:Option Value}{K:Value->Prop}(h:Ns P t x lo hi mx K):iG P (Instr.sliceAt t x lo hi mx) K:=by
 unfold Ns at h;split at h
 .rename_i e a n c hu;split at h
  .rename_i ie l hh m hi1 SM hh1 Yo;obtain⟨hx,h0,h1,h2,h3,hk⟩:=ach h;refine⟨_,fun w=>?_,hk _ rfl⟩;have hb:=xL (P:=P) (w:=w) (b:=true) SM hh1 Yo hx h0 h1 h2 h3;simp only[Instr.sliceAt,Instr.slice,Sem.run_bind,aD hu,Result.andThen_ok,hb,bL hi1,Sem.run_pure,h_];have e1:hh.toNat - l.toNat=(hh - l).toNat:=by omega
   have e2:m.toNat - l.toNat=(m - l).toNat:=by omega
   rw[e1,e2]
  .exact h.elim
 .rename_i n e a hu;split at h
  .rename_i ie l hh m hi1 SM hh1 Yo;obtain⟨hx,h0,h1,h2,h3,hk⟩:=ach h;refine⟨_,fun w=>?_,hk _ rfl⟩;have hb:=xL (P:=P) (w:=w) (b:=false) SM hh1 Yo hx h0 h1 h2 h3;simp only[Instr.sliceAt,Sem.run_bind,aD hu,Result.andThen_ok,Instr.sureAddr,hb,bL hi1,Sem.run_pure,h_];have e1:hh.toNat - l.toNat=(hh - l).toNat:=by omega
   have e2:m.toNat - l.toNat=(m - l).toNat:=by omega
   rw[e1,e2];split <;> simp
  .exact h.elim
 .rename_i s hu;split at h
  .rename_i l hh SM hh1;obtain⟨h0,h1,h2,hk⟩:=h;refine⟨_,fun w=>?_,hk⟩;have hb:=xL (P:=P) (w:=w) (b:=false) (cap:=s.size) (mx:=none) SM hh1 (m:=s.size) rfl (by simp) h0 h1 h2 (Int.le_refl _);simp only[Instr.sliceAt,Instr.slice,Sem.run_bind,aD hu,Result.andThen_ok,hb,Sem.run_pure,Option.isSome_none,Bool.false_eq_true,if_false]
  .exact h.elim
 .exact h.elim
theorem Nw{t:TypeId}{x:Value}{K:Value->Prop}(h:Z6 P t x K){ty:TypeId}:iG P (Builtin.len_ #[t] ty #[x]) K:=by
 unfold Z6 at h;split at h
 .rename_i s hu;exact⟨_,fun w=>by simp[Builtin.len_,aD hu,goInt],h⟩
 .rename_i n e hu;exact⟨_,fun w=>by simp[Builtin.len_,aD hu,goInt],h⟩
 .rename_i e a n c hu;exact⟨_,fun w=>by simp[Builtin.len_,aD hu,goInt],h⟩
 .rename_i e hu;split at h
  .rename_i n e' hu2;exact⟨_,fun w=>by simp[Builtin.len_,aD hu,aD hu2,goInt],h⟩
  .exact h.elim
 .exact h.elim
theorem Nx{t:TypeId}{x:Value}{K:Value->Prop}(h:Z7 P t x K){ty:TypeId}:iG P (Builtin.cap_ #[t] ty #[x]) K:=by
 unfold Z7 at h;split at h
 .rename_i e a n c hu;exact⟨_,fun w=>by simp[Builtin.cap_,aD hu,goInt],h⟩
 .exact h.elim
theorem Ih{t:TypeId}{x i:Value}{K:Value->Prop}(hu:P.underlying t=some .string)(h:Nu x i K):iG P (Instr.index t x i) K:=by
 unfold Nu at h;split at h
 .rename_i s k n;obtain⟨b,h0,hb,hk⟩:=h;refine⟨_,fun w=>?_,hk⟩
  have:s[n.toNat]? = some b:=by
   obtain⟨aN,he⟩:=List.getElem?_eq_some_iff.1 hb;have Ii:n.toNat < s.size:=by simpa using aN
   rw[getElem?_pos s n.toNat Ii];congr 1
  simp only[Instr.index,asIntOf,Sem.run_bind,Sem.run_pure,aD hu,Result.andThen_ok,if_pos h0,this]
 .exact h.elim
theorem KK{s:TypeId}{x:Value}{f:Nat}{K:Value->Prop}(h:SK P s x f K):iG P (Instr.field s x f) K:=by
 unfold SK at h;split at h
 .rename_i fs cs hu;split at h
  .rename_i fd hf;split at h
   .rename_i i d hi hd
    cases ha:lW d with
    | true=>
     rw[ha]at h;refine⟨_,fun w=>?_,h⟩;simp only[Instr.field,Sem.run_bind,aD hu,Result.andThen_ok,hf,asAgg,Sem.run_pure,zL hi hd,ha,cond_true];congr 2;apply Array.toList_inj.1;simp[List.extract,Array.toList_extract]
    | false=>
     rw[ha]at h;simp only[cond_false]at h;split at h
     .rename_i v hv;refine⟨_,fun w=>?_,h⟩;simp only[Instr.field,Sem.run_bind,aD hu,Result.andThen_ok,hf,asAgg,Sem.run_pure,zL hi hd,ha,cond_false,hv]
     .exact h.elim
   .exact h.elim
  .exact h.elim
 .exact h.elim
theorem xM(off:Nat):∀(vs:List Value)(k:Nat)(cells:Array Value),
  ((vs.zipIdx k).foldl (fun cs (p:Value×Nat)=>cs.setIfInBounds (off+p.2) p.1) cells).toList=setL cells.toList (off+k) vs
 | [],k,cells=>rfl
 | v::vs,k,cells=>by
  simp only[List.zipIdx_cons,List.foldl_cons];rw[xM off vs (k+1)];simp[setL,Nat.add_assoc]
theorem jU(v:Value):cV v=v.cells.toList:=by cases v <;> rfl
theorem jV:∀(vs cs:List Value)(o:Nat),(setL cs o vs).length=cs.length
 | [],_,_=>rfl
 | v::vs,cs,o=>by rw[setL,jV vs];simp
theorem lX:∀(vs cs:List Value)(o:Nat),o+vs.length<=cs.length->setL cs o vs=cs.take o++(vs++cs.drop (o+vs.length))
 | [],cs,o,h=>by simp[setL]
 | v::vs,cs,o,h=>by
  simp only[List.length_cons]at h;rw[setL,lX vs (cs.set o v) (o+1) (by simp;omega)]
  have h1:(cs.set o v).take (o+1)=cs.take o++[v]:=by
   rw[List.take_add_one,List.take_set_of_le (Nat.le_refl _),List.getElem?_set_self (by omega)];simp
  have h2:(cs.set o v).drop (o+1+vs.length)=cs.drop (o+1+vs.length):=by
   rw[List.drop_set_of_lt (by omega)]
  rw[h1,h2,List.length_cons,show o+(vs.length+1)=o+1+vs.length by omega];simp
theorem Ex{fs:Array Field}{places:Array (Nat×Nat)}(hp:∀(i:Nat)(f:Field)(j:TypeInfo),fs[i]? = some f->P.info? f.type=some j->places[i]? = some (f.offset,j.size)){ρ:Env} :
  ∀(parts:List (Nat×Operand))(cells:Array Value)(out:List Value),ql P fs ρ cells.toList parts=some out->
   Instr.fill (places[·]?) cells (parts.map fun p=>(p.1,ev ρ p.2))=some out.toArray
 | [],cells,out,h=>by simp only[ql,Option.some.injEq]at h;subst h;simp[Instr.fill]
 | (i,x)::r,cells,out,h=>by
  unfold ql at h;split at h
  .rename_i f hf;split at h
   .rename_i j hj
    cases hc:(Nat.beq (cV (ev ρ x)).length j.size && Nat.ble (f.offset+j.size) cells.toList.length) with
    | false=>rw[hc]at h;simp at h
    | true=>
     rw[hc]at h;simp only[cond_true]at h;simp only[Bool.and_eq_true,Nat.beq_eq,Nat.ble_eq,jU,Array.length_toList]at hc;simp only[List.map_cons,Instr.fill,hp i f j hf hj]
     have e1:¬ ((decide ((ev ρ x).cells.size≠j.size) || decide (f.offset+(ev ρ x).cells.size > cells.size))=true):=by
      simp[hc.1];omega
     rw[if_neg e1];have e2:=xM f.offset (ev ρ x).cells.toList 0 cells;refine Ex hp r _ out ?_;rw[<- h];congr 1;rw[<- Array.foldl_toList,Array.toList_zipIdx];rw[jU];exact e2
   .simp at h
  .simp at h
theorem Cj:∀(fs:List Field),(fs.all fun f=>(P.info? f.type).isSome)=true->
  ∃l:List (Nat×Nat),(∀w,(fs.mapM fun f=>(do pure (f.offset,<- sizeOf f.type):Sem (Nat×Nat))).run P w = .ok l w)/\l.length=fs.length/\
   ∀(i:Nat)(f:Field)(j:TypeInfo),fs[i]? = some f->P.info? f.type=some j->l[i]? = some (f.offset,j.size)
 | [],_=>⟨[],fun w=>by simp,rfl,by simp⟩
 | f::fs,h=>by
  simp only[List.all_cons,Bool.and_eq_true]at h;obtain⟨l,h1,h2,h3⟩:=Cj fs h.2;obtain⟨j,hj⟩:=Option.isSome_iff_exists.1 h.1;refine⟨(f.offset,j.size)::l,fun w=>by simp only[List.mapM_cons,Sem.run_bind,bL hj,h1,Result.andThen_ok,Sem.run_pure],by simp[h2],?_⟩;intro i g k hg hk
  cases i with
  | zero=>simp at hg;subst hg;rw[hj]at hk;cases hk;rfl
  | succ i=>simp at hg ⊢;exact h3 i g k hg hk
theorem Ey{fs:Array Field}{ρ:Env}:∀(parts:List (Nat×Operand))(cs:List Value)(K:List Value->Prop),Eu P fs ρ cs parts K->∃out,ql P fs ρ cs parts=some out/\K out
 | [],cs,K,h=>⟨cs,rfl,h⟩
 | (i,x)::r,cs,K,h=>by
  unfold Eu at h;unfold ql;split at h
  .rename_i f hf;split at h
   .rename_i j hj
    cases hr:Qp P f.type with
    | true=>
     rw[hr]at h;simp only[cond_true]at h;obtain⟨h1,h2⟩:=h
     cases hb:Nat.ble (f.offset+j.size) cs.length with
     | false=>rw[hb]at h2;exact h2.elim
     | true=>
      rw[hb]at h2;simp only[cond_true]at h2;have hle:=Nat.le_of_ble_eq_true hb;obtain⟨out,ho,hk⟩:=Ey r _ K h2;refine⟨out,?_,hk⟩;have e:Nat.beq (cV (ev ρ x)).length j.size=true:=by rw[h1];exact Nat.beq_refl _
      rw[e];simp only[Bool.true_and,cond_true];rw[lX _ _ _ (by rw[h1];exact hle),h1];exact ho
    | false=>
     rw[hr]at h;simp only[cond_false]at h
     cases hb:(Nat.beq (cV (ev ρ x)).length j.size && Nat.ble (f.offset+j.size) cs.length) with
     | false=>rw[hb]at h;exact h.elim
     | true=>
      rw[hb]at h;simp only[cond_true]at h ⊢;exact Ey r _ K h
   .exact h.elim
  .exact h.elim
theorem Ny{v:Value}(h:cB v=true):cV v=[v]:=by cases v <;> first | rfl | cases h
theorem Ez{fs:Array Field}{ρ:Env}:∀(parts:List (Nat×Operand))(cs:List Value)(K:List Value->Prop),Ev P fs ρ cs parts K->∃out,ql P fs ρ cs parts=some out/\K out
 | [],cs,K,h=>⟨cs,rfl,h⟩
 | (i,x)::r,cs,K,h=>by
  unfold Ev at h;unfold ql
  cases hf:fs[i]? with
  | none=>rw[hf]at h;exact h.elim
  | some f=>
   rw[hf]at h;simp only at h ⊢
   cases hj:P.info? f.type with
   | none=>rw[hj]at h;exact h.elim
   | some j=>
    rw[hj]at h;simp only at h ⊢
    cases hv:Bc P f.type with
    | true=>
     rw[hv]at h;simp only[cond_true]at h;obtain⟨h1,h⟩:=h;rw[Ny h1]
     cases hb:(Nat.beq 1 j.size && Nat.ble (f.offset+j.size) cs.length) with
     | false=>rw[hb]at h;exact h.elim
     | true=>
      rw[hb]at h;exact Ez r _ K h
    | false=>
     rw[hv]at h;simp only[cond_false]at h
     cases hb:(Nat.beq (cV (ev ρ x)).length j.size && Nat.ble (f.offset+j.size) cs.length) with
     | false=>rw[hb]at h;exact h.elim
     | true=>rw[hb]at h;exact Ez r _ K h
theorem Ij{t:TypeId}{ρ:Env}{parts:Array (Nat×Operand)}{K:Value->Prop}(h:Nt P t ρ parts.toList K) :
  iG P (Instr.build t (parts.map fun(i,x)=>(i,ev ρ x))) K:=by
 unfold Nt at h;split at h
 .rename_i i fs hi hu;split at h
  .rename_i zs hz
   cases ha:fs.toList.all fun f=>(P.info? f.type).isSome with
   | false=>rw[ha]at h;exact h.elim
   | true=>
    rw[ha]at h;simp only[cond_true]at h
    have h':∃cs,ql P fs ρ zs.toList parts.toList=some cs/\K (.agg cs.toArray):=by
     cases hr:Qp P t with
     | true=>rw[hr]at h;exact Ey _ _ _ h
     | false=>
      rw[hr]at h;simp only[cond_false]at h
      cases hv:acg P t with
      | true=>rw[hv]at h;exact Ez _ _ _ h
      | false=>
       rw[hv]at h;simp only[cond_false]at h;split at h
       .rename_i cs Nz;exact⟨cs,Nz,h⟩
       .exact h.elim
    obtain⟨cs,Nz,h⟩:=h'
    .obtain⟨l,h1,h2,h3⟩:=Cj (P:=P) fs.toList ha;refine⟨_,fun w=>?_,h⟩
     have e:(fs.mapM fun f=>(do pure (f.offset,<- sizeOf f.type):Sem (Nat×Nat))).run P w = .ok l.toArray w:=by
      rw[Array.mapM_eq_mapM_toList,Sem.run_map,h1];rfl
     have e2:=Ex (P:=P) (fs:=fs) (places:=l.toArray) (ρ:=ρ) (fun i f j hf hj=>by simpa using h3 i f j (by simpa using hf) hj) parts.toList zs cs Nz;simp only[Instr.build,Sem.run_bind,ja hi hz,aD hu,Result.andThen_ok,e];have e3:(parts.map fun(x:Nat×Operand)=>(x.1,ev ρ x.2)).toList=parts.toList.map fun p=>(p.1,ev ρ p.2):=by simp
     simp only[Value.cells,e3,e2,Sem.run_pure]
  .exact h.elim
 .exact h.elim
theorem Ik(f:Operand->Value)(a:Array Operand):a.map f=(a.toList.map f).toArray:=by
 apply Array.toList_inj.1;simp
theorem Hu{o:Oper}{ρ:Env}{K:Value->Prop}(h:R_ P o ρ K):∃v,SL P o (ev ρ) v/\K v:=by
 obtain⟨dst,op,type,pos,after,guard⟩:=o
 have lift:∀{s:Sem Value},(∀ε:Operand->Value,ε=ev ρ->execOp ε ⟨dst,op,type,pos,after,guard⟩=(do pure (Next.value (<- s))))->iG P s K->∃v,SL P ⟨dst,op,type,pos,after,guard⟩ (ev ρ) v/\K v:=by
  intro s he ⟨v,hv,hk⟩;exact⟨v,fun w=>by rw[he _ rfl,Sem.run_bind,hv w];rfl,hk⟩
 cases op <;> simp only[R_]at h <;> try exact h.elim
 case move x=>exact⟨_,fun w=>rfl,h⟩
 case assign x=>exact⟨_,fun w=>rfl,h⟩
 case pick c a b=>
  split at h
  .rename_i t ht
   cases t
   .exact⟨ev ρ b,fun w=>by simp[execOp,ht,asBool],h⟩
   .exact⟨ev ρ a,fun w=>by simp[execOp,ht,asBool],h⟩
  .exact h.elim
 case nilCheck x=>
  unfold Z4 at h;split at h
  .rename_i p hp;obtain⟨a,rfl,hk⟩:=h;exact⟨_,fun w=>by simp[execOp,hp],hk⟩
  .rename_i t v hp;exact⟨_,fun w=>by simp[execOp,hp],h⟩
  .rename_i f a b hp;exact⟨_,fun w=>by simp[execOp,hp],h⟩
  .rename_i f a b hp;exact⟨_,fun w=>by simp[execOp,hp],h⟩
  .exact h.elim
 case binOp op t x y t' =>
  split at h
  .split at h
   .rename_i ms hu;refine lift (s:=do eqGuard op t x (.const .nilIface) (ev ρ x) (ev ρ (.const .nilIface));binOp op t (ev ρ x) (ev ρ (.const .nilIface))) (fun ε e=>by subst e;simp[execOp]) ?_;have hev:ev ρ (.const .nilIface) = .nilIface:=rfl;rw[hev];have hI:SJ (ev ρ x):=by unfold Np at h;split at h <;> first | exact h.1 | exact h.elim
    have hg:∀w,(eqGuard op t x (.const .nilIface) (ev ρ x) .nilIface).run P w = .ok () w:=fun w=>by
     generalize ev ρ x=v at hI;unfold eqGuard
     cases op <;> cases v <;> first | rfl | (exact hI.elim) | (simp;done)
    have he:∀w,(Op.equal t (ev ρ x) .nilIface).run P w = .ok (oH (ev ρ x)) w:=fun w=>by
     generalize ev ρ x=v at hI;show(Op.equalIn (9999+1) t v .nilIface).run P w=_;rw[Op.equalIn]
     cases v <;> first | (exact hI.elim) | (simp only[Sem.run_bind,aD hu,Result.andThen_ok];rfl)
    generalize ev ρ x=v at hI h hg he;unfold Np at h;split at h
    .refine⟨_,fun w=>?_,h.2⟩;rw[Sem.run_bind,hg w,Result.andThen_ok]
     cases v <;> first | (exact hI.elim) | (simp only[binOp,Sem.run_bind,he,Result.andThen_ok];rfl)
    .refine⟨_,fun w=>?_,h.2⟩;rw[Sem.run_bind,hg w,Result.andThen_ok]
     cases v <;> first | (exact hI.elim) | (simp only[binOp,Sem.run_bind,he,Result.andThen_ok];rfl)
    .exact h.elim
   .exact h.elim
  .exact lift (s:=do eqGuard op t x y (ev ρ x) (ev ρ y);binOp op t (ev ρ x) (ev ρ y)) (fun ε e=>by subst e;simp[execOp]) (Nv h)
 case unOp op t x=>exact lift (fun ε e=>by subst e;rfl) (Qq h)
 case convert s d x=>exact lift (fun ε e=>by subst e;rfl) (Ci h)
 case fieldAddr s x f=>exact lift (fun ε e=>by subst e;rfl) (Ic h)
 case field s x f=>exact lift (fun ε e=>by subst e;rfl) (KK h)
 case indexAddr t x i=>exact lift (fun ε e=>by subst e;rfl) (Ie h)
 case index t x i=>
  split at h
  .rename_i hu;exact lift (fun ε e=>by subst e;rfl) (Ih hu h)
  .exact h.elim
 case slice t x lo hi mx=>exact lift (fun ε e=>by subst e;rfl) (Ig h)
 case build t ps=>exact lift (fun ε e=>by subst e;rfl) (Ij h)
 case makeFunc fn first captured=>
  cases fn <;> (try simp only at h) <;> try exact h.elim
  rename_i f;refine lift (s:=Instr.makeFunc (.func f) (first.map (ev ρ)) (captured.map (ev ρ))) (fun ε e=>by subst e;rfl) ⟨_,fun w=>?_,h⟩;simp only[Instr.makeFunc,Ik,Sem.run_pure]
 case makeInterface t x=>
  split at h
  .exact h.elim
  .rename_i d du hu;refine lift (fun ε e=>by subst e;rfl) ⟨_,fun w=>?_,h⟩;simp only[Instr.makeInterface,Sem.run_bind,aD hu,Result.andThen_ok]
   cases d <;> first | rfl | exact absurd rfl (du _)
  .exact h.elim
 case sliceToArrayPointer t x=>
  split at h
  .rename_i n e a len c hu hv;obtain⟨hle,a,rfl,hk⟩:=h;refine lift (fun ε e=>by subst e;rfl) ⟨_,fun w=>?_,hk⟩;rw[hv];simp only[Instr.arrayAt,Sem.run_bind,aD hu,Result.andThen_ok];rw[if_neg (by omega)];rfl
  .exact h.elim
 case extract x i=>
  split at h
  .rename_i vs hv;split at h
   .rename_i v hi;refine lift (fun ε e=>by subst e;rfl) ⟨_,fun w=>?_,h⟩;simp only[Instr.extract,hv,<- Array.getElem?_toList,hi];rfl
   .exact h.elim
  .exact h.elim
 case call c=>
  obtain⟨callee,args,argTypes⟩:=c
  cases callee <;> simp only at h <;> try exact h.elim
  rename_i b
  have hc:∀(s:Sem Value),(builtin b argTypes type (args.map fun | .const _=>true | _=>false) (args.map (ev ρ))=(do pure (Next.value (<- s))))->iG P s K->∃v,SL P ⟨dst,.call ⟨.builtin b,args,argTypes⟩,type,pos,after,guard⟩ (ev ρ) v/\K v:=by
   intro s he hs;refine lift (s:=s) (fun ε e=>?_) hs;subst e;simp only[execOp,resolve,pure_bind,invoke];exact he
  have ha:args=args.toList.toArray:=rfl;have ht:argTypes=argTypes.toList.toArray:=rfl;split at h
  .rename_i x t hx htt;rw[hx]at ha;rw[htt]at ht;subst ha;subst ht;exact hc (Builtin.len_ #[t] type #[ev ρ x]) (by simp[builtin]) (Nw h)
  .rename_i x t hx htt;rw[hx]at ha;rw[htt]at ht;subst ha;subst ht;exact hc (Builtin.cap_ #[t] type #[ev ρ x]) (by simp[builtin]) (Nx h)
  .rename_i x y hx;rw[hx]at ha;subst ha;split at h
   .rename_i k a k' b' h1 h2;refine hc (Builtin.max_ argTypes type #[ev ρ x,ev ρ y]) (by simp[builtin]) ⟨_,fun w=>?_,h.out⟩;simp[Builtin.max_,h1,h2,Builtin.max2,CX]
   .exact h.elim
  .rename_i x y hx;rw[hx]at ha;subst ha;split at h
   .rename_i k a k' b' h1 h2;refine hc (Builtin.min_ argTypes type #[ev ρ x,ev ρ y]) (by simp[builtin]) ⟨_,fun w=>?_,h.out⟩;simp[Builtin.min_,h1,h2,Builtin.min2,KI]
   .exact h.elim
  .exact h.elim
end sound
end Go.V
