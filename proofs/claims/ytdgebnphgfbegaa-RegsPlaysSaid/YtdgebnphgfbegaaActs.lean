/- Operations that read or write memory, or call; and that what is asked of them is sound. -/
import Derived.Test.YtdgebnphgfbegaaOpsB
namespace Go.V
def oneC : Value → Bool
  | .agg _ => false
  | .tuple _ => false
  | _ => true
def World.setBlk (w : World) (b : Nat) (o : Obj) : World := { w with heap := w.heap.setIfInBounds b o }
def World.pushBlk (w : World) (o : Obj) : World := { w with heap := w.heap.push o }
/-- A new block. -/
structure New (w : World) (o : Obj) (b : Nat) (w' : World) : Prop where
  at_ : b = w.heap.size
  is : w' = World.pushBlk w o
/-- A block is written over. -/
def Wrt (w : World) (b : Nat) (o : Obj) (w' : World) : Prop := w' = World.setBlk w b o
def NewW (w : World) (o : Obj) (K : Nat → World → Prop) : Prop := ∀ b w', New w o b w' → K b w'
def Uf (fz : Nat × Nat) (off n : Nat) : Prop := fz.2 ≤ off ∨ off + n ≤ fz.1 ∨ fz.2 ≤ fz.1
/-- One cell is written. -/
def St1 (w : World) (a : Addr) (v : Value) (K : World → Prop) : Prop :=
  ∃ cs T fz, w.heap[a.block]? = some (.cells cs T fz) ∧ a.spot = none ∧ a.off < cs.size ∧ Uf fz a.off 1 ∧ oneC v = true ∧
    ∀ w', Wrt w a.block (.cells ⟨cs.toList.set a.off v⟩ T fz) w' → K w'
/-- Cells are written. -/
def StN (w : World) (a : Addr) (vs : List Value) (K : World → Prop) : Prop :=
  ∃ cs T fz, w.heap[a.block]? = some (.cells cs T fz) ∧ a.spot = none ∧ a.off + vs.length ≤ cs.size ∧ Uf fz a.off vs.length ∧ (∀ v ∈ vs, oneC v = true) ∧
    ∀ w', Wrt w a.block (.cells ⟨setL cs.toList a.off vs⟩ T fz) w' → K w'
def RowC (C : Addr → Value → Prop) (a : Addr) (i : Nat) (k : IntKind) (l : List Int) : Prop := ∀ j (h : j < l.length), C (a.add (i + j)) (.int k l[j])
def exLd (C : Addr → Value → Prop) (a : Addr) : List Seg → Nat → (List Value → Prop) → Prop
  | [], _, K => K []
  | .one s :: r, i, K => ∃ x : s.T, C (a.add i) (s.mk x) ∧ exLd C a r (i + 1) (fun vs => K (s.mk x :: vs))
  | .row k n :: r, i, K => ∃ l : List Int, l.length = n ∧ RowC C a i k l ∧ exLd C a r (i + n) (fun vs => K (l.map (Value.int k) ++ vs))
def loadC (C : Addr → Value → Prop) (P : Program) (t : TypeId) (x : Value) (K : Value → Prop) : Prop :=
  match x with
  | .pointer (some a) => match tyOf P t with
    | .one s => ∃ y : s.T, C a (s.mk y) ∧ K (s.mk y)
    | .agg l => exLd C a l 0 (fun vs => K (.agg vs.toArray))
    | .bad => False
  | _ => False
def Cell (w : World) (a : Addr) (v : Value) : Prop := w.cell? a = some v
def Held (S : World → Prop) (a : Addr) (v : Value) : Prop := ∀ w, S w → w.cell? a = some v
def storeW (P : Program) (t : TypeId) (x v : Value) (K : World → Prop) (w : World) : Prop :=
  match x, P.info? t with
  | .pointer (some a), some i => match v with
    | .agg cs => cs.toList.length = i.size ∧ StN w a cs.toList K
    | v => bif Nat.beq i.size 1 then St1 w a v K else False
  | _, _ => False
def bsOf (cs : List Value) : Option (List UInt8) := match cs with
  | [] => some []
  | .int .u8 n :: r => (bsOf r).map (UInt8.ofNat n.toNat :: ·)
  | _ :: _ => none
/-- The bytes of a slice, as a string. -/
def ReadsB (C : Addr → Value → Prop) (s : Sl) (bs : List UInt8) : Prop :=
  bs.length = s.len ∧ (∀ i (h : i < bs.length), ∃ a n, s.a = some a ∧ C (a.add i) (.int .u8 n) ∧ UInt8.ofNat n.toNat = bs[i]) ∧ (s.a = none → bs = [])
def StrC (C : Addr → Value → Prop) (s : Sl) (K : ByteArray → Prop) : Prop := ∃ bs : List UInt8, ReadsB C s bs ∧ K ⟨bs.toArray⟩
def bytesP (P : Program) (src dst : TypeId) : Bool :=
  match P.underlying src, P.underlying dst with
  | some (.slice e), some .string => match P.underlying e with
    | some (.int .u8) => true
    | _ => false
  | _, _ => false
def convC (C : Addr → Value → Prop) (P : Program) (src dst : TypeId) (x : Value) (K : Value → Prop) : Prop :=
  bif bytesP P src dst then match x with
    | .slice a n c => StrC C ⟨a, n, c⟩ fun s => K (.string s)
    | _ => False
  else convP P src dst x K
def exVs : List Ty → (List Value → Prop) → Prop
  | [], F => F []
  | t :: ts, F => exTy t (fun v => exVs ts (fun vs => F (v :: vs)))
def callT (P : Program) (f : FuncId) (args : List Value) (tys : List Ty) (K : Value → World → Prop) (w : World) : Prop :=
  Calls P f args.toArray w (fun e w' => exVs tys (fun vs => e = .returned (tup vs) ∧ K (tup vs) w'))
def callable (fn : Func) : Bool := fn.body.isSome && !(fn.name == "runtime.NumGoroutine")
def callV (P : Program) (f : Value) (args : List Value) (K : Value → World → Prop) (w : World) : Prop :=
  match f with
  | .func (.func n) first captured => match P.funcs[n]? with
    | some fn => bif callable fn then callT P n (first.toList ++ args ++ captured.toList) (fn.resultTypes.toList.map (tyOf P)) K w else False
    | none => False
  | _ => False
/-- append(s, x...): a run of the model's own. -/
def AppW (P : Program) (t t' : TypeId) (s : Sl) (x : Value) (K : Sl → World → Prop) (w : World) : Prop :=
  ∃ s' w', (∀ ty, (Builtin.append_ #[t, t'] ty #[s.v, x]).run P w = .ok s'.v w') ∧ K s' w'
def CopyW (P : Program) (t t' : TypeId) (s : Sl) (x : Value) (K : Int → World → Prop) (w : World) : Prop :=
  ∃ n w', (∀ ty, (Builtin.copy_ #[t, t'] ty #[s.v, x]).run P w = .ok (.int .i64 n) w') ∧ K n w'
def elemsL (ρ : Env) (n sz : Nat) : Nat → List (Nat × Operand) → Option (List Value)
  | i, [] => bif Nat.beq i n then some [] else none
  | i, (j, x) :: r => bif Nat.beq i j && Nat.beq (cellsL (ev ρ x)).length sz then (elemsL ρ n sz (i + 1) r).map (cellsL (ev ρ x) ++ ·) else none
def elemsR (ρ : Env) (n sz : Nat) : Nat → List (Nat × Operand) → (List Value → Prop) → Prop
  | i, [], K => bif Nat.beq i n then K [] else False
  | i, (j, x) :: r, K => bif Nat.beq i j then (cellsL (ev ρ x)).length = sz ∧ elemsR ρ n sz (i + 1) r (fun cs => K (cellsL (ev ρ x) ++ cs)) else False
def newSliceW (P : Program) (t : TypeId) (n : Nat) (ρ : Env) (parts : List (Nat × Operand)) (K : Value → World → Prop) (w : World) : Prop :=
  match P.underlying t with
  | some (.slice e) => match P.info? e with
    | some ie => bif Nat.ble (n * ie.size) 16777216 then (bif rowT P e then (bif ie.zero.isSome then elemsR ρ n ie.size 0 parts fun cs => NewW w (.cells cs.toArray e) fun b w' => K (.slice (some ⟨b, 0, none⟩) n n) w' else False) else match ie.zero, elemsL ρ n ie.size 0 parts with
      | some _, some cs => NewW w (.cells cs.toArray e) fun b w' => K (.slice (some ⟨b, 0, none⟩) n n) w'
      | _, _ => False)
      else False
    | none => False
  | _ => False
def allocW (P : Program) (t : TypeId) (K : Value → World → Prop) (w : World) : Prop :=
  match P.info? t with
  | some i => match i.zero with
    | some z => NewW w (.cells (cellsL z).toArray t) fun b w' => K (.pointer (some ⟨b, 0, none⟩)) w'
    | none => False
  | none => False
/-- make([]T, l, c) -/
def MkW (w : World) (e : TypeId) (zs : List Value) (bytes : Nat) (l c : Int) (K : Sl → World → Prop) : Prop :=
  0 ≤ l ∧ l ≤ c ∧ c ≤ 9223372036854775807 ∧ bytes * c ≤ 281474976710656 ∧
    NewW w (.cells (List.replicate c.toNat zs).flatten.toArray e) fun b w' => K ⟨some ⟨b, 0, none⟩, l.toNat, c.toNat⟩ w'
def makeW (P : Program) (t : TypeId) (l c : Value) (K : Value → World → Prop) (w : World) : Prop :=
  match P.underlying t with
  | some (.slice e) => match P.info? e with
    | some ie => match ie.zero, l, c with
      | some z, .int _ l, .int _ c => bif Nat.beq (cellsL z).length ie.size && Nat.blt 0 ie.size then MkW w e (cellsL z) ie.bytes l c fun s w' => K (.slice s.a s.len s.cap) w' else False
      | _, _, _ => False
    | none => False
  | _ => False
def opW (P : Program) (o : Oper) (ρ : Env) (K : Value → World → Prop) (w : World) : Prop :=
  match o.op with
  | .load t x => loadC (Cell w) P t (ev ρ x) (fun v => K v w)
  | .store t x v => storeW P t (ev ρ x) (ev ρ v) (fun w' => K undef w') w
  | .alloc t => allocW P t K w
  | .box t x => NewW w (.cells (cellsL (ev ρ x)).toArray t) fun b w' => K (.pointer (some ⟨b, 0, none⟩)) w'
  | .buildSlice t n parts => newSliceW P t n ρ parts.toList K w
  | .makeSlice t l c => makeW P t (ev ρ l) (ev ρ c) K w
  | .convert s d x => convC (Cell w) P s d (ev ρ x) (fun v => K v w)
  | .call ⟨.value f, args, _⟩ => callV P (ev ρ f) (args.toList.map (ev ρ)) K w
  | .call ⟨.builtin .append, args, tys⟩ => match args.toList, tys.toList with
    | [s, x], [t, t'] => match ev ρ s with
      | .slice a n c => AppW P t t' ⟨a, n, c⟩ (ev ρ x) (fun s' w' => K (.slice s'.a s'.len s'.cap) w') w
      | _ => False
    | _, _ => False
  | .call ⟨.builtin .copy, args, tys⟩ => match args.toList, tys.toList with
    | [s, x], [t, t'] => match ev ρ s with
      | .slice a n c => CopyW P t t' ⟨a, n, c⟩ (ev ρ x) (fun n w' => K (.int .i64 n) w') w
      | _ => False
    | _, _ => False
  | _ => opP P o ρ (fun v => K v w)
/-- Taken first, in every world that meets S. -/
def takeW (P : Program) (S : World → Prop) (o : Oper) (ρ : Env) (K : Value → Prop) : Prop :=
  match o.op with
  | .load t x => loadC (Held S) P t (ev ρ x) K
  | .convert s d x => convC (Held S) P s d (ev ρ x) K
  | _ => opP P o ρ K
def OpOk (P : Program) (o : Oper) (ε : Operand → Value) (K : Value → World → Prop) (w : World) : Prop :=
  match (execOp ε o).run P w with
  | .ok (.value v) w' => K v w'
  | .ok .skip w' => K undef w'
  | .ok (.enter f args) w' => Calls P f args w' (fun e w'' => ∃ v, e = .returned v ∧ K v w'')
  | _ => False
end Go.V
