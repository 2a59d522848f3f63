/- What one operation of the model asks, in plain words, and that this is sound. -/
import Derived.Test.YtdgebnphgfbegaaCore
import Derived.Laws.Sem
import Derived.Laws.StructEq
namespace Go.V
/-! ### words -/
def Ar (k : IntKind) (e : Int) (K : Int → Prop) : Prop := ∀ z, z = k.wrap e → K z
def Nm (e : Int) (K : Int → Prop) : Prop := ∀ z, z = e → K z
def If (b : Bool) (A B : Prop) : Prop := match b with
  | true => A
  | false => B
theorem If.out {b : Bool} {A B : Prop} (h : If b A B) : (b = true → A) ∧ (b = false → B) := by
  cases b
  · exact ⟨(fun e => by cases e), fun _ => h⟩
  · exact ⟨fun _ => h, (fun e => by cases e)⟩
theorem If.mk {b : Bool} {A B : Prop} (h : b = true → A) (k : b = false → B) : If b A B := by cases b; exact k rfl; exact h rfl
def Nn (p : Option Addr) (K : Addr → Prop) : Prop := ∃ a, p = some a ∧ K a
def bitI (op : BinOp) (k : IntKind) (x y : Int) : Int :=
  match op with
  | .and => k.wrap (BitVec.ofInt k.bits x &&& BitVec.ofInt k.bits y).toNat
  | .or => k.wrap (BitVec.ofInt k.bits x ||| BitVec.ofInt k.bits y).toNat
  | .xor => k.wrap (BitVec.ofInt k.bits x ^^^ BitVec.ofInt k.bits y).toNat
  | _ => k.wrap (BitVec.ofInt k.bits x &&& ~~~BitVec.ofInt k.bits y).toNat
def Ix (base : Option Addr) (len : Nat) (i : Int) (sz : Nat) (K : Addr → Prop) : Prop :=
  ∃ a, base = some a ∧ 0 ≤ i ∧ i < (len : Int) ∧ K (a.add (i.toNat * sz))
def cutA (a : Option Addr) (m l sz : Nat) : Option Addr := if m = l then a else a.map (·.add (l * sz))
/-- s[lo:hi:mx] -/
def Cut (s : Sl) (lo hi mx : Int) (sz : Nat) (K : Sl → Prop) : Prop :=
  0 ≤ lo ∧ lo ≤ hi ∧ hi ≤ mx ∧ mx ≤ (s.cap : Int) ∧ ∀ s', s' = ⟨cutA s.a mx.toNat lo.toNat sz, (hi - lo).toNat, (mx - lo).toNat⟩ → K s'
def CutS (s : ByteArray) (lo hi : Int) (K : ByteArray → Prop) : Prop :=
  0 ≤ lo ∧ lo ≤ hi ∧ hi ≤ (s.size : Int) ∧ K (s.extract lo.toNat hi.toNat)
def iMax (x y : Int) : Int := if y > x then y else x
def iMin (x y : Int) : Int := if y < x then y else x
def pickW (b : Bool) (A B : Prop) : Prop := match b with
  | true => A
  | false => B

/-! ### plain operations: no memory -/
def kk (k k' : IntKind) (A : Prop) : Prop := if k = k' then A else False
/-- Equality of two structs' cells, where the fields are integers, bools or strings. -/
def eqL (P : Program) (cs ds : List Value) : List Field → Option Bool
  | [] => some true
  | f :: r => if f.name = "_" then none else match P.info? f.type, P.underlying f.type with
    | some _, some (.int _) => match cs[f.offset]?, ds[f.offset]? with
      | some (.int k a), some (.int k' b) => if k = k' then match eqL P cs ds r with
        | some t => some ((a == b) && t)
        | none => none
        else none
      | _, _ => none
    | some _, some .bool => match cs[f.offset]?, ds[f.offset]? with
      | some (.bool a), some (.bool b) => match eqL P cs ds r with
        | some t => some ((a == b) && t)
        | none => none
      | _, _ => none
    | some _, some .string => match cs[f.offset]?, ds[f.offset]? with
      | some (.string a), some (.string b) => match eqL P cs ds r with
        | some t => some ((a.toList == b.toList) && t)
        | none => none
      | _, _ => none
    | _, _ => none
def eqS (P : Program) (t : TypeId) (cs ds : List Value) : Option Bool :=
  match P.underlying t with
  | some (.struct fs) => bif P.eqGuardType P.depth t || P.stoodInHeld t then none else eqL P cs ds fs.toList
  | _ => none
def binP (P : Program) (op : BinOp) (t : TypeId) (x y : Value) (K : Value → Prop) : Prop :=
  match x with
  | .int k a => match y with
    | .int k' b => match op with
      | .add => kk k k' (Ar k (a + b) fun z => K (.int k z))
      | .sub => kk k k' (Ar k (a - b) fun z => K (.int k z))
      | .mul => kk k k' (Ar k (a * b) fun z => K (.int k z))
      | .quo => kk k k' (b ≠ 0 ∧ Ar k (a.tdiv b) fun z => K (.int k z))
      | .rem => kk k k' (b ≠ 0 ∧ Nm (a.tmod b) fun z => K (.int k z))
      | .and => kk k k' (Nm (bitI .and k a b) fun z => K (.int k z))
      | .or => kk k k' (Nm (bitI .or k a b) fun z => K (.int k z))
      | .xor => kk k k' (Nm (bitI .xor k a b) fun z => K (.int k z))
      | .andNot => kk k k' (Nm (bitI .andNot k a b) fun z => K (.int k z))
      | .shl => 0 ≤ b ∧ Ar k (a * 2 ^ min b.toNat k.bits) fun z => K (.int k z)
      | .shr => 0 ≤ b ∧ Nm (a.fdiv (2 ^ min b.toNat k.bits)) fun z => K (.int k z)
      | .eql => kk k k' (K (.bool (a == b)))
      | .neq => kk k k' (K (.bool (a != b)))
      | .lss => kk k k' (K (.bool (decide (a < b))))
      | .leq => kk k k' (K (.bool (decide (a ≤ b))))
      | .gtr => kk k k' (K (.bool (decide (a > b))))
      | .geq => kk k k' (K (.bool (decide (a ≥ b))))
    | _ => False
  | .string a => match y with
    | .string b => match op with
      | .add => ((a.size + b.size : Nat) : Int) ≤ IntKind.i64.max ∧ K (.string (a ++ b))
      | .eql => K (.bool (a.toList == b.toList))
      | .neq => K (.bool !(a.toList == b.toList))
      | .lss => K (.bool (Op.bytesLess a.toList b.toList))
      | _ => False
    | _ => False
  | .bool a => match y, P.underlying t with
    | .bool b, some .bool => match op with
      | .eql => K (.bool (a == b))
      | .neq => K (.bool !(a == b))
      | _ => False
    | _, _ => False
  | .pointer a => match y, P.underlying t with
    | .pointer none, some (.pointer _) => match op with
      | .eql => K (.bool a.isNone)
      | .neq => K (.bool !a.isNone)
      | _ => False
    | _, _ => False
  | .slice a _ _ => match y, P.underlying t with
    | .slice none _ _, some (.slice _) => match op with
      | .eql => K (.bool a.isNone)
      | .neq => K (.bool !a.isNone)
      | _ => False
    | _, _ => False
  | .agg cs => match y with
    | .agg ds => match op with
      | .eql => match eqS P t cs.toList ds.toList with
        | some b => K (.bool b)
        | none => False
      | .neq => match eqS P t cs.toList ds.toList with
        | some b => K (.bool !b)
        | none => False
      | _ => False
    | _ => False
  | _ => False
def unP (op : UnOp) (x : Value) (K : Value → Prop) : Prop :=
  match op, x with
  | .not, .bool b => K (.bool !b)
  | .neg, .int k n => Ar k (0 - n) fun z => K (.int k z)
  | .xor, .int k n => Nm (bitI .xor k (if k.signed then -1 else k.max) n) fun z => K (.int k z)
  | _, _ => False
def convP (P : Program) (src dst : TypeId) (x : Value) (K : Value → Prop) : Prop :=
  match P.underlying src with
  | none => False
  | some _ => match P.underlying dst, x with
    | some (.int k), .int _ n => Ar k n fun z => K (.int k z)
    | some .string, .string s => K (.string s)
    | _, _ => False
def fieldP (P : Program) (s : TypeId) (x : Value) (f : Nat) (K : Value → Prop) : Prop :=
  match P.underlying s with
  | some (.struct fs) => match fs[f]? with
    | some fd => match P.info? fd.type with
      | some i => match x with
        | .pointer (some a) => bif Nat.beq i.size 0 then False else K (.pointer (some (a.add fd.offset)))
        | _ => False
      | none => False
    | none => False
  | _ => False
def indexP (P : Program) (t : TypeId) (x i : Value) (K : Value → Prop) : Prop :=
  match i with
  | .int _ n => match P.underlying t, x with
    | some (.slice e), .slice base len _ => match P.info? e with
      | some ie => Ix base len n ie.size fun a => K (.pointer (some a))
      | none => False
    | some (.array len e), .pointer (some a) => match P.info? e with
      | some ie => 0 ≤ n ∧ n < (len : Int) ∧ K (.pointer (some (a.add (n.toNat * ie.size))))
      | none => False
    | _, _ => False
  | _ => False
def lowOf : Option Value → Option Int
  | none => some 0
  | some (.int _ n) => some n
  | _ => none
def highOf (d : Nat) : Option Value → Option Int
  | none => some (d : Int)
  | some (.int _ n) => some n
  | _ => none
def sliceP (P : Program) (t : TypeId) (x : Value) (lo hi mx : Option Value) (K : Value → Prop) : Prop :=
  match P.underlying t, x with
  | some (.slice e), .slice a n c => match P.info? e, lowOf lo, highOf n hi, highOf c mx with
    | some ie, some l, some h, some m => match mx, hi with
      | some _, none => False
      | _, _ => Cut ⟨a, n, c⟩ l h m ie.size fun s => K (.slice s.a s.len s.cap)
    | _, _, _, _ => False
  | some (.array n e), .pointer (some a) => match P.info? e, lowOf lo, highOf n hi, highOf n mx with
    | some ie, some l, some h, some m => match mx, hi with
      | some _, none => False
      | _, _ => Cut ⟨some a, n, n⟩ l h m ie.size fun s => K (.slice s.a s.len s.cap)
    | _, _, _, _ => False
  | some .string, .string s => match mx, lowOf lo, highOf s.size hi with
    | none, some l, some h => CutS s l h fun s => K (.string s)
    | _, _, _ => False
  | _, _ => False
def cellsL (v : Value) : List Value := match v with
  | .agg cs => cs.toList
  | v => [v]
/-- A struct's value out of its zero cells and parts. -/
def setL : List Value → Nat → List Value → List Value
  | cs, _, [] => cs
  | cs, o, v :: vs => setL (cs.set o v) (o + 1) vs
def buildL (P : Program) (fs : Array Field) (ρ : Env) : List Value → List (Nat × Operand) → Option (List Value)
  | cs, [] => some cs
  | cs, (i, x) :: r => match fs[i]? with
    | some f => match P.info? f.type with
      | some j => bif Nat.beq (cellsL (ev ρ x)).length j.size && Nat.ble (f.offset + j.size) cs.length then buildL P fs ρ (setL cs f.offset (cellsL (ev ρ x))) r else none
      | none => none
    | none => none
def isRow : Seg → Bool
  | .row _ _ => true
  | _ => false
/-- A type with a row of integers in it. -/
def rowT (P : Program) (t : TypeId) : Bool := match tyOf P t with
  | .agg l => l.any isRow
  | _ => false
/-- The same where parts have rows: their lengths are asked. -/
def buildR (P : Program) (fs : Array Field) (ρ : Env) : List Value → List (Nat × Operand) → (List Value → Prop) → Prop
  | cs, [], K => K cs
  | cs, (i, x) :: r, K => match fs[i]? with
    | some f => match P.info? f.type with
      | some j => bif rowT P f.type then (cellsL (ev ρ x)).length = j.size ∧ (bif Nat.ble (f.offset + j.size) cs.length then buildR P fs ρ (cs.take f.offset ++ (cellsL (ev ρ x) ++ cs.drop (f.offset + j.size))) r K else False)
        else bif Nat.beq (cellsL (ev ρ x)).length j.size && Nat.ble (f.offset + j.size) cs.length then buildR P fs ρ (setL cs f.offset (cellsL (ev ρ x))) r K else False
      | none => False
    | none => False
def buildP (P : Program) (t : TypeId) (ρ : Env) (parts : List (Nat × Operand)) (K : Value → Prop) : Prop :=
  match P.info? t, P.underlying t with
  | some i, some (.struct fs) => match i.zero with
    | some (.agg zs) => bif fs.toList.all (fun f => (P.info? f.type).isSome) then (bif rowT P t then buildR P fs ρ zs.toList parts fun cs => K (.agg cs.toArray) else match buildL P fs ρ zs.toList parts with
      | some cs => K (.agg cs.toArray)
      | none => False)
      else False
    | _ => False
  | _, _ => False
def partP (P : Program) (s : TypeId) (x : Value) (f : Nat) (K : Value → Prop) : Prop :=
  match P.underlying s, x with
  | some (.struct fs), .agg cs => match fs[f]? with
    | some fd => match P.info? fd.type, P.underlying fd.type with
      | some i, some d => bif isAggD d then K (.agg ((cs.toList.drop fd.offset).take i.size).toArray) else match cs.toList[fd.offset]? with
        | some v => K v
        | none => False
      | _, _ => False
    | none => False
  | _, _ => False
def strIxP (x i : Value) (K : Value → Prop) : Prop :=
  match x, i with
  | .string s, .int _ n => ∃ b, 0 ≤ n ∧ s.data.toList[n.toNat]? = some b ∧ K (.int .u8 (b.toNat : Int))
  | _, _ => False
def lenP (P : Program) (t : TypeId) (x : Value) (K : Value → Prop) : Prop :=
  match P.underlying t, x with
  | some .string, .string s => K (.int .i64 (s.size : Int))
  | some (.array n _), _ => K (.int .i64 (n : Int))
  | some (.slice _), .slice _ n _ => K (.int .i64 (n : Int))
  | some (.pointer e), _ => match P.underlying e with
    | some (.array n _) => K (.int .i64 (n : Int))
    | _ => False
  | _, _ => False
def capP (P : Program) (t : TypeId) (x : Value) (K : Value → Prop) : Prop :=
  match P.underlying t, x with
  | some (.slice _), .slice _ _ n => K (.int .i64 (n : Int))
  | _, _ => False
def opP (P : Program) (o : Oper) (ρ : Env) (K : Value → Prop) : Prop :=
  match o.op with
  | .move x => K (ev ρ x)
  | .assign x => K (ev ρ x)
  | .pick c a b => match ev ρ c with
    | .bool t => pickW t (K (ev ρ a)) (K (ev ρ b))
    | _ => False
  | .nilCheck x => match ev ρ x with
    | .pointer p => Nn p fun a => K (.pointer (some a))
    | .iface t v => K (.iface t v)
    | .func (.func f) a b => K (.func (.func f) a b)
    | _ => False
  | .binOp op t x y _ => binP P op t (ev ρ x) (ev ρ y) K
  | .unOp op _ x => unP op (ev ρ x) K
  | .convert src dst x => convP P src dst (ev ρ x) K
  | .fieldAddr s x f => fieldP P s (ev ρ x) f K
  | .field s x f => partP P s (ev ρ x) f K
  | .indexAddr t x i => indexP P t (ev ρ x) (ev ρ i) K
  | .index t x i => match P.underlying t with
    | some .string => strIxP (ev ρ x) (ev ρ i) K
    | _ => False
  | .slice t x lo hi mx => sliceP P t (ev ρ x) (lo.map (ev ρ)) (hi.map (ev ρ)) (mx.map (ev ρ)) K
  | .build t parts => buildP P t ρ parts.toList K
  | .makeFunc (.func f) first captured => K (.func (.func f) (first.toList.map (ev ρ)).toArray (captured.toList.map (ev ρ)).toArray)
  | .makeInterface t x => match P.underlying t with
    | some (.interface _) => False
    | some _ => K (.iface t (ev ρ x))
    | none => False
  | .sliceToArrayPointer t x => match P.underlying t, ev ρ x with
    | some (.array n _), .slice a len _ => n ≤ len ∧ Nn a fun a => K (.pointer (some a))
    | _, _ => False
  | .extract x i => match ev ρ x with
    | .tuple vs => match vs.toList[i]? with
      | some v => K v
      | none => False
    | _ => False
  | .call ⟨.builtin b, args, argTypes⟩ => match b, args.toList, argTypes.toList with
    | .len, [x], [t] => lenP P t (ev ρ x) K
    | .cap, [x], [t] => capP P t (ev ρ x) K
    | .max, [x, y], _ => match ev ρ x, ev ρ y with
      | .int k a, .int _ b => Nm (iMax a b) fun z => K (.int k z)
      | _, _ => False
    | .min, [x, y], _ => match ev ρ x, ev ρ y with
      | .int k a, .int _ b => Nm (iMin a b) fun z => K (.int k z)
      | _, _ => False
    | _, _, _ => False
  | _ => False
/-- In whatever world: the value v, and nothing else. -/
def Gives (P : Program) (o : Oper) (ε : Operand → Value) (v : Value) : Prop := ∀ w, (execOp ε o).run P w = .ok (.value v) w

section sound
variable {P : Program} {w : World}
theorem run_und {t : TypeId} {d : TypeDesc} (h : P.underlying t = some d) : (underlying t).run P w = .ok d w := by
  simp [underlying, program, Sem.run, h, pure, bind, Sem.bind]
theorem run_info {t : TypeId} {i : TypeInfo} (h : P.info? t = some i) : (typeInfo t).run P w = .ok i w := by
  simp [typeInfo, program, Sem.run, h, pure, bind, Sem.bind]
theorem run_size {t : TypeId} {i : TypeInfo} (h : P.info? t = some i) : (sizeOf t).run P w = .ok i.size w := by
  simp [sizeOf, run_info h]
theorem run_isAgg {t : TypeId} {d : TypeDesc} (h : P.underlying t = some d) : (isAgg t).run P w = .ok (isAggD d) w := by
  unfold isAgg
  simp only [Sem.run_bind, run_und h, Result.andThen_ok]
  cases d <;> rfl
theorem run_zero {t : TypeId} {i : TypeInfo} {z : Value} (h : P.info? t = some i) (hz : i.zero = some z) : (zeroValue t).run P w = .ok z w := by
  simp [zeroValue, run_info h, hz]
theorem kk_elim {k k' : IntKind} {A : Prop} (h : kk k k' A) : k = k' ∧ A := by
  unfold kk at h; split at h
  · exact ⟨‹_›, h⟩
  · exact h.elim
theorem Ar.out {k : IntKind} {e : Int} {K : Int → Prop} (h : Ar k e K) : K (k.wrap e) := h _ rfl
theorem Nm.out {e : Int} {K : Int → Prop} (h : Nm e K) : K e := h _ rfl
def GivesS (P : Program) (s : Sem Value) (K : Value → Prop) : Prop := ∃ v, (∀ w, s.run P w = .ok v w) ∧ K v
theorem GivesS.pure {s : Sem Value} {v : Value} {K : Value → Prop} (hs : s = Sem.pure v) (h : K v) : GivesS P s K := ⟨v, fun w => by rw [hs]; rfl, h⟩
theorem eqGuard_quiet {op : BinOp} {t : TypeId} {x y : Operand} {a b : Value} (h : ∀ c d, ¬ (a = .agg c ∧ b = .agg d)) (h2 : a ≠ .nilIface) :
    (eqGuard op t x y a b).run P w = .ok () w := by
  unfold eqGuard
  cases op <;> cases a <;> cases b <;> first | rfl | (exact absurd rfl h2) | (exact absurd ⟨rfl, rfl⟩ (h _ _)) | (simp; rfl)
theorem equal_bool {t : TypeId} {a b : Bool} (hu : P.underlying t = some .bool) : (Op.equal t (.bool a) (.bool b)).run P w = .ok (a == b) w := by
  show (Op.equalIn (9999 + 1) t (.bool a) (.bool b)).run P w = _
  rw [Op.equalIn]
  simp only [Sem.run_bind, run_und hu, Result.andThen_ok]; rfl
theorem equal_ptr {t e : TypeId} {a : Option Addr} (hu : P.underlying t = some (.pointer e)) : (Op.equal t (.pointer a) (.pointer none)).run P w = .ok a.isNone w := by
  show (Op.equalIn (9999 + 1) t (.pointer a) (.pointer none)).run P w = _
  rw [Op.equalIn]
  simp only [Sem.run_bind, run_und hu, Result.andThen_ok]; cases a <;> rfl
theorem equal_sl {t e : TypeId} {a : Option Addr} {n c n' c' : Nat} (hu : P.underlying t = some (.slice e)) : (Op.equal t (.slice a n c) (.slice none n' c')).run P w = .ok a.isNone w := by
  show (Op.equalIn (9999 + 1) t (.slice a n c) (.slice none n' c')).run P w = _
  rw [Op.equalIn]
  simp only [Sem.run_bind, run_und hu, Result.andThen_ok]; cases a <;> rfl
theorem run_part {t : TypeId} {i : TypeInfo} {d : TypeDesc} {cs : Array Value} {off : Nat} (hi : P.info? t = some i) (hd : P.underlying t = some d) :
    (part t cs off).run P w = (bif isAggD d then .ok (.agg (cs.extract off (off + i.size))) w else match cs.toList[off]? with
      | some v => .ok v w
      | none => .halt (.stuck "part: no such cell") w) := by
  unfold part
  simp only [Sem.run_bind, run_isAgg hd, Result.andThen_ok]
  cases isAggD d with
  | true => simp [run_size hi]
  | false =>
    simp only [Bool.false_eq_true, if_false, cond_false]
    rw [← Array.getElem?_toList]
    cases cs.toList[off]? <;> rfl
theorem eqL_sound {d : Nat} {cs ds : Array Value} : ∀ {fs : List Field} {b : Bool}, eqL P cs.toList ds.toList fs = some b → (Op.eqFields (d + 1) cs ds fs).run P w = .ok b w
  | [], b, h => by simp only [eqL, Option.some.injEq] at h; subst h; simp [Op.eqFields]
  | f :: r, b, h => by
    unfold eqL at h
    split at h
    · cases h
    · rename_i hn
      have key : ∀ {u v : Value} {q : Bool} {D : TypeDesc} {i : TypeInfo}, P.info? f.type = some i → P.underlying f.type = some D → isAggD D = false → cs.toList[f.offset]? = some u → ds.toList[f.offset]? = some v →
          (∀ w, (Op.equalIn (d + 1) f.type u v).run P w = .ok q w) → ∀ {t : Bool}, eqL P cs.toList ds.toList r = some t → some (q && t) = some b → (Op.eqFields (d + 1) cs ds (f :: r)).run P w = .ok b w := by
        intro u v q D i hi hD hA hu hv hq t ht hb
        cases hb
        have e1 : ∀ w, (part f.type cs f.offset).run P w = .ok u w := fun w => by rw [run_part hi hD, hA, hu]; rfl
        have e2 : ∀ w, (part f.type ds f.offset).run P w = .ok v w := fun w => by rw [run_part hi hD, hA, hv]; rfl
        simp only [Op.eqFields, ne_eq, hn, not_false_eq_true, if_true, Sem.run_bind, e1, e2, hq, Result.andThen_ok]
        cases q
        · simp
        · simp only [Bool.not_true, Bool.false_eq_true, if_false, Bool.true_and]; exact eqL_sound ht
      split at h
      · rename_i i kk hi hD
        split at h
        · rename_i k a k' b' hu hv
          split at h
          · rename_i hk
            subst hk
            split at h
            · rename_i t ht
              exact key hi hD rfl hu hv (fun w => run_equalIn_int w d f.type _ _ a b' hD) ht h
            · cases h
          · cases h
        · cases h
      · rename_i i hi hD
        split at h
        · rename_i a b' hu hv
          split at h
          · rename_i t ht
            exact key hi hD rfl hu hv (fun w => run_equalIn_bool' w d f.type a b' hD) ht h
          · cases h
        · cases h
      · rename_i i hi hD
        split at h
        · rename_i a b' hu hv
          split at h
          · rename_i t ht
            exact key hi hD rfl hu hv (fun w => run_equalIn_string w d f.type a b' hD) ht h
          · cases h
        · cases h
      · cases h
theorem eqS_sound {t : TypeId} {cs ds : Array Value} {b : Bool} (h : eqS P t cs.toList ds.toList = some b) :
    (∀ op x y w, (eqGuard op t x y (.agg cs) (.agg ds)).run P w = .ok () w) ∧ ∀ w, (Op.equalIn 10000 t (.agg cs) (.agg ds)).run P w = .ok b w := by
  unfold eqS at h
  split at h
  · rename_i fs hu
    cases hg : (P.eqGuardType P.depth t || P.stoodInHeld t) with
    | true => rw [hg] at h; cases h
    | false =>
      rw [hg] at h
      simp only [Bool.or_eq_false_iff] at hg
      have hf : P.fieldsOf t = fs := by simp [Program.fieldsOf, hu]
      refine ⟨fun op x y w => run_eqGuard_agg w op t x y cs ds hg.1, fun w => ?_⟩
      rw [show (10000 : Nat) = 9998 + 1 + 1 from rfl, run_equalIn_struct w (9998 + 1) t cs ds (by rw [hf]; exact hu) hg.2, hf]
      exact eqL_sound h
  · cases h
theorem binP_sound {op : BinOp} {t : TypeId} {x y : Operand} {ρ : Operand → Value} {K : Value → Prop} (h : binP P op t (ρ x) (ρ y) K) :
    GivesS P (do eqGuard op t x y (ρ x) (ρ y); binOp op t (ρ x) (ρ y)) K := by
  have hg : ∀ w, (eqGuard op t x y (ρ x) (ρ y)).run P w = .ok () w := fun w => by
    by_cases hag : ∃ c d, ρ x = .agg c ∧ ρ y = .agg d
    · obtain ⟨c, d, e1, e2⟩ := hag
      rw [e1, e2] at h ⊢
      cases op <;> simp only [binP] at h <;> first | exact h.elim | skip
      all_goals
        split at h
        · rename_i b hb; exact (eqS_sound hb).1 _ x y w
        · exact h.elim
    · refine eqGuard_quiet ?_ ?_
      · intro c d hcd; exact hag ⟨c, d, hcd⟩
      · intro e1; rw [e1] at h; simp [binP] at h
  suffices hh : GivesS P (binOp op t (ρ x) (ρ y)) K by
    obtain ⟨v, hv, hk⟩ := hh
    exact ⟨v, fun w => by rw [Sem.run_bind, hg w]; exact hv w, hk⟩
  clear hg
  generalize ρ x = a at *
  generalize ρ y = b at *
  cases a with
  | int k a =>
    cases b with
    | int k' b =>
      cases op <;> simp only [binP] at h
      case add => obtain ⟨rfl, h1⟩ := kk_elim h; exact .pure (by simp [binOp, Op.intArith]; rfl) h1.out
      case sub => obtain ⟨rfl, h1⟩ := kk_elim h; exact .pure (by simp [binOp, Op.intArith]; rfl) h1.out
      case mul => obtain ⟨rfl, h1⟩ := kk_elim h; exact .pure (by simp [binOp, Op.intArith]; rfl) h1.out
      case quo => obtain ⟨rfl, hb, h1⟩ := kk_elim h; exact .pure (by simp [binOp, Op.intDiv, hb]; rfl) h1.out
      case rem => obtain ⟨rfl, hb, h1⟩ := kk_elim h; exact .pure (by simp [binOp, Op.intDiv, hb]; rfl) h1.out
      case and => obtain ⟨rfl, h1⟩ := kk_elim h; exact .pure (by simp only [binOp, Op.intBits, ne_eq, not_true_eq_false, if_false]; rfl) h1.out
      case or => obtain ⟨rfl, h1⟩ := kk_elim h; exact .pure (by simp only [binOp, Op.intBits, ne_eq, not_true_eq_false, if_false]; rfl) h1.out
      case xor => obtain ⟨rfl, h1⟩ := kk_elim h; exact .pure (by simp only [binOp, Op.intBits, ne_eq, not_true_eq_false, if_false]; rfl) h1.out
      case andNot => obtain ⟨rfl, h1⟩ := kk_elim h; exact .pure (by simp only [binOp, Op.intBits, ne_eq, not_true_eq_false, if_false]; rfl) h1.out
      case shl => obtain ⟨hb, h1⟩ := h; exact .pure (by simp only [binOp, Op.shift, if_neg (Int.not_lt.2 hb)]; rfl) h1.out
      case shr => obtain ⟨hb, h1⟩ := h; exact .pure (by simp only [binOp, Op.shift, if_neg (Int.not_lt.2 hb)]; rfl) h1.out
      case eql => obtain ⟨rfl, h1⟩ := kk_elim h; exact .pure (by simp [binOp, Op.intCmp]; rfl) h1
      case neq => obtain ⟨rfl, h1⟩ := kk_elim h; exact .pure (by simp [binOp, Op.intCmp]; rfl) h1
      case lss => obtain ⟨rfl, h1⟩ := kk_elim h; exact .pure (by simp [binOp, Op.intCmp]; rfl) h1
      case leq => obtain ⟨rfl, h1⟩ := kk_elim h; exact .pure (by simp [binOp, Op.intCmp]; rfl) h1
      case gtr => obtain ⟨rfl, h1⟩ := kk_elim h; exact .pure (by simp [binOp, Op.intCmp]; rfl) h1
      case geq => obtain ⟨rfl, h1⟩ := kk_elim h; exact .pure (by simp [binOp, Op.intCmp]; rfl) h1
    | _ => exact h.elim
  | string a =>
    cases b with
    | string b =>
      cases op <;> simp only [binP] at h
      case add => exact .pure (by simp only [binOp, Op.stringOp]; rw [if_neg (Int.not_lt.2 h.1)]; rfl) h.2
      case eql => exact .pure (by simp only [binOp, Op.stringOp]; rfl) h
      case neq => exact .pure (by simp only [binOp, Op.stringOp]; rfl) h
      case lss => exact .pure (by simp only [binOp, Op.stringOp]; rfl) h
      all_goals exact h.elim
    | _ => exact h.elim
  | bool a =>
    cases b with
    | bool b =>
      simp only [binP] at h
      split at h
      · rename_i b' heq hu
        cases heq
        cases op <;> simp only at h
        case eql => exact ⟨_, fun w => by simp only [binOp, Sem.run_bind, equal_bool hu, Result.andThen_ok]; rfl, h⟩
        case neq => exact ⟨_, fun w => by simp only [binOp, Sem.run_bind, equal_bool hu, Result.andThen_ok]; rfl, h⟩
        all_goals exact h.elim
      · exact h.elim
    | _ => simp [binP] at h
  | pointer a =>
    cases b with
    | pointer b =>
      simp only [binP] at h
      split at h
      · rename_i e heq hu
        cases heq
        cases op <;> simp only at h
        case eql => exact ⟨_, fun w => by simp only [binOp, Sem.run_bind, equal_ptr hu, Result.andThen_ok]; rfl, h⟩
        case neq => exact ⟨_, fun w => by simp only [binOp, Sem.run_bind, equal_ptr hu, Result.andThen_ok]; rfl, h⟩
        all_goals exact h.elim
      · exact h.elim
    | _ => simp [binP] at h
  | slice a n c =>
    cases b with
    | slice b n' c' =>
      simp only [binP] at h
      split at h
      · rename_i e heq hu
        cases heq
        cases op <;> simp only at h
        case eql => exact ⟨_, fun w => by simp only [binOp, Sem.run_bind, equal_sl hu, Result.andThen_ok]; rfl, h⟩
        case neq => exact ⟨_, fun w => by simp only [binOp, Sem.run_bind, equal_sl hu, Result.andThen_ok]; rfl, h⟩
        all_goals exact h.elim
      · exact h.elim
    | _ => simp [binP] at h
  | agg cs =>
    cases b with
    | agg ds =>
      cases op <;> simp only [binP] at h <;> first | exact h.elim | skip
      case eql =>
        split at h
        · rename_i b hb; exact ⟨_, fun w => by rw [run_eql_struct, (eqS_sound hb).2 w]; rfl, h⟩
        · exact h.elim
      case neq =>
        split at h
        · rename_i b hb; exact ⟨_, fun w => by rw [run_neq_struct, (eqS_sound hb).2 w]; rfl, h⟩
        · exact h.elim
    | _ => simp [binP] at h
  | _ => exact h.elim

theorem unP_sound {op : UnOp} {x : Value} {K : Value → Prop} (h : unP op x K) : GivesS P (Op.unary op x) K := by
  cases op <;> cases x <;> simp only [unP] at h <;> first | exact h.elim | skip
  all_goals first
    | exact .pure rfl h
    | exact .pure rfl h.out
theorem convP_sound {src dst : TypeId} {x : Value} {K : Value → Prop} (h : convP P src dst x K) : GivesS P (convert src dst x) K := by
  unfold convP at h
  cases hs : P.underlying src with
  | none => simp only [hs] at h
  | some ds =>
    simp only [hs] at h
    split at h
    · rename_i k k' n hd
      refine ⟨_, fun w => ?_, h.out⟩
      unfold convert
      simp only [Sem.run_bind, run_und hs, run_und hd, Result.andThen_ok]
      cases ds <;> rfl
    · rename_i s hd
      refine ⟨_, fun w => ?_, h⟩
      unfold convert
      simp only [Sem.run_bind, run_und hs, run_und hd, Result.andThen_ok]
      cases ds <;> rfl
    · exact h.elim
theorem fieldP_sound {s : TypeId} {x : Value} {f : Nat} {K : Value → Prop} (h : fieldP P s x f K) : GivesS P (Instr.fieldAt s x f) K := by
  unfold fieldP at h
  split at h
  · rename_i fs hu
    split at h
    · rename_i fd hf
      split at h
      · rename_i i hi
        split at h
        · rename_i a
          cases hz : Nat.beq i.size 0 with
          | true => rw [hz] at h; exact h.elim
          | false =>
            rw [hz] at h
            have hne : i.size ≠ 0 := fun e => by rw [e] at hz; exact absurd hz (by decide)
            refine ⟨_, fun w => ?_, h⟩
            simp only [Instr.fieldAt, Sem.run_bind, run_und hu, Result.andThen_ok, hf, Instr.sureAddr, Sem.run_pure, fieldPlace, run_size hi, if_neg hne]
        · exact h.elim
      · exact h.elim
    · exact h.elim
  · exact h.elim
theorem indexP_sound {t : TypeId} {x i : Value} {K : Value → Prop} (h : indexP P t x i K) : GivesS P (Instr.indexAt t x i) K := by
  unfold indexP at h
  split at h
  · rename_i k n
    split at h
    · rename_i e base len cap hu
      split at h
      · rename_i ie hi
        obtain ⟨a, rfl, h0, h1, hk⟩ := h
        refine ⟨_, fun w => ?_, hk⟩
        simp only [Instr.indexAt, asIntOf, Sem.run_bind, Sem.run_pure, run_und hu, Result.andThen_ok, if_pos (And.intro h0 h1), run_size hi]
      · exact h.elim
    · rename_i len e a hu
      split at h
      · rename_i ie hi
        obtain ⟨h0, h1, hk⟩ := h
        refine ⟨_, fun w => ?_, hk⟩
        simp only [Instr.indexAt, asIntOf, Sem.run_bind, Sem.run_pure, run_und hu, Result.andThen_ok, Instr.sureAddr, if_pos (And.intro h0 h1), run_size hi]
      · exact h.elim
    · exact h.elim
  · exact h.elim
end sound
end Go.V
