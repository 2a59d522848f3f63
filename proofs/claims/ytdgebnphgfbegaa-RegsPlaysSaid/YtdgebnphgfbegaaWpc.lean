/- What a body of code asks, computed; and that it is sound. -/
import Derived.Test.YtdgebnphgfbegaaActsC
import Derived.Test.YtdgebnphgfbegaaOrd
namespace Go.V
def gW (ops : Array Oper) (o : Oper) (ρ : Env) (A B : Prop) : Prop :=
  match o.guard with
  | none => A
  | some (j, want) => match (ops[j]?).bind (·.dst) with
    | some d => match ρ d with
      | .bool b => bif want then (bif b then A else B) else (bif b then B else A)
      | _ => B
    | none => B
/-- A value by which others are guarded is parted at once. -/
def splitW (g : Bool) (v : Value) (K : Value → Prop) : Prop :=
  bif g then (match v with
    | .bool b => If b (K (.bool true)) (K (.bool false))
    | v => K v) else K v
def isG (ops : Array Oper) (i : Nat) : Bool := ops.toList.any fun o => match o.guard with
  | some (j, _) => Nat.beq j i
  | none => false
def seqW (P : Program) (ops : Array Oper) : Nat → List Oper → Env → (Env → World → Prop) → World → Prop
  | _, [], ρ, K, w => K ρ w
  | i, o :: r, ρ, K, w => gW ops o ρ (opW P o ρ (fun v w' => splitW (isG ops i) v fun v => seqW P ops (i + 1) r (putO ρ o.dst v) K w') w) (seqW P ops (i + 1) r (putO ρ o.dst undef) K w)
inductive Plan where
  | fin
  | last (i : Nat)
  | take (i : Nat) (r : Plan)
  | one (i : Nat) (r : Plan)
  | two (i : Nat) (ri : Plan) (j : Nat) (rj : Plan)
  | three (i : Nat) (ri : Plan) (j : Nat) (rj : Plan) (k : Nat) (rk : Plan)
def actW (P : Program) (ops : Array Oper) (S : World → Prop) (i : Nat) (next : Env → World → Prop) (ρ : Env) (w : World) : Prop :=
  match ops[i]? with
  | some o => gW ops o ρ (opW P o ρ (fun v w' => S w' ∧ splitW (isG ops i) v fun v => next (putO ρ o.dst v) w') w) (next (putO ρ o.dst undef) w)
  | none => False
def planW (P : Program) (ops : Array Oper) (S : World → Prop) : Plan → Env → (Env → World → Prop) → World → Prop
  | .fin, ρ, K, w => K ρ w
  | .last i, ρ, K, w => match ops[i]? with
    | some o => gW ops o ρ (opW P o ρ (fun v w' => splitW (isG ops i) v fun v => K (putO ρ o.dst v) w') w) (K (putO ρ o.dst undef) w)
    | none => False
  | .take i r, ρ, K, w => match ops[i]? with
    | some o => gW ops o ρ (takeW P S o ρ (fun v => splitW (isG ops i) v fun v => planW P ops S r (putO ρ o.dst v) K w)) (planW P ops S r (putO ρ o.dst undef) K w)
    | none => False
  | .one i r, ρ, K, w => actW P ops S i (fun ρ' w' => planW P ops S r ρ' K w') ρ w
  | .two i ri j rj, ρ, K, w => actW P ops S i (fun ρ' w' => planW P ops S ri ρ' K w') ρ w ∧ actW P ops S j (fun ρ' w' => planW P ops S rj ρ' K w') ρ w
  | .three i ri j rj k rk, ρ, K, w => actW P ops S i (fun ρ' w' => planW P ops S ri ρ' K w') ρ w ∧ actW P ops S j (fun ρ' w' => planW P ops S rj ρ' K w') ρ w ∧ actW P ops S k (fun ρ' w' => planW P ops S rk ρ' K w') ρ w
def planOk (ops : Array Oper) : Plan → Nat → Array Bool → Bool
  | .fin, _, li => (Region.ready .any ops li).isEmpty
  | .last i, _ + 1, li => Region.ready .any ops li == [i] && lastB ops i && (Region.ready .any ops (li.setIfInBounds i true)).isEmpty
  | .take i r, f + 1, li => Region.free .any ops li i && (Region.ready .any ops li).contains i && planOk ops r f (li.setIfInBounds i true)
  | .one i r, f + 1, li => Region.ready .any ops li == [i] && planOk ops r f (li.setIfInBounds i true)
  | .two i ri j rj, f + 1, li => Region.ready .any ops li == [i, j] && planOk ops ri f (li.setIfInBounds i true) && planOk ops rj f (li.setIfInBounds j true)
  | .three i ri j rj k rk, f + 1, li => Region.ready .any ops li == [i, j, k] && planOk ops ri f (li.setIfInBounds i true) && planOk ops rj f (li.setIfInBounds j true) && planOk ops rk f (li.setIfInBounds k true)
  | _, 0, _ => false
@[reducible] def Cur : List (Nat × Sh) → Type
  | [] => World → Prop
  | (_, s) :: r => s.T → Cur r
def appC : (l : List (Nat × Sh)) → Cur l → Env → World → Prop
  | [], J, _, w => J w
  | (t, s) :: r, J, ρ, w => s.get (ρ t) (fun x => appC r (J x) ρ w)
def allC : (l : List (Nat × Sh)) → Cur l → Env → (Env → World → Prop) → Prop
  | [], J, ρ, F => ∀ w, J w → F ρ w
  | (t, s) :: r, J, ρ, F => ∀ x : s.T, allC r (J x) (put ρ t (s.mk x)) F
inductive Ann where
  | nil
  | seq (a b : Ann)
  | join (l : List (Nat × Sh)) (mask : Nat) (a b : Ann)
  | cond (a b : Ann)
  | block (a : Ann)
  | loop (l : List (Nat × Sh)) (mask : Nat) (a : Ann)
  | draw (p : Plan)
def thenE (next : Env → World → Prop) (Q : Exit → Env → World → Prop) : Exit → Env → World → Prop
  | .normal, ρ, w => next ρ w
  | e, ρ, w => Q e ρ w
def blockE (id : Nat) (Q : Exit → Env → World → Prop) : Exit → Env → World → Prop
  | .exit i, ρ, w => bif Nat.beq i id then Q .normal ρ w else Q (.exit i) ρ w
  | e, ρ, w => Q e ρ w
def drewW (w : World) : World := { w with drawn := w.drawn + 1 }
def condW (v : Value) (A B : Prop) : Prop := match v with
  | .bool b => If b A B
  | _ => False
def wpc (P : Program) : Ann → Code → (Exit → Env → World → Prop) → Env → World → Prop
  | .nil, .skip, Q, ρ, w => Q .normal ρ w
  | .nil, .label _, Q, ρ, w => Q .normal ρ w
  | .nil, .exit i, Q, ρ, w => Q (.exit i) ρ w
  | .nil, .goto l, Q, ρ, w => Q (.goto l) ρ w
  | .nil, .ret, Q, ρ, w => Q .ret ρ w
  | .nil, .region _ ops false, Q, ρ, w => seqW P ops 0 ops.toList ρ (Q .normal) w
  | .draw p, .region _ ops true, Q, ρ, w => ∃ S : World → Prop, S (drewW w) ∧ planW P ops S p ρ (Q .normal) (drewW w)
  | .seq a b, .seq x y, Q, ρ, w => wpc P a x (thenE (wpc P b y Q) Q) ρ w
  | .join l mask a b, .seq x y, Q, ρ, w => ∃ J : Cur l, wpc P a x (thenE (appC l J) Q) ρ w ∧ ∀ junk, allC l J (mix mask junk ρ) (wpc P b y Q)
  | .cond a b, .cond c x y, Q, ρ, w => condW (ev ρ c) (wpc P a x Q ρ w) (wpc P b y Q ρ w)
  | .block a, .block id c, Q, ρ, w => wpc P a c (blockE id Q) ρ w
  | .loop l mask a, .loop c, Q, ρ, w => ∃ I : Nat → Cur l, (∃ m, appC l (I m) ρ w) ∧ ∀ junk m, allC l (I m) (mix mask junk ρ) (fun ρ' w' => wpc P a c (thenE (fun ρ'' w'' => ∃ m', m' < m ∧ appC l (I m') ρ'' w'') Q) ρ' w')
  | _, _, _, _, _ => False
def maskO (mask : Nat) : Option Nat → Bool
  | some d => Nat.testBit mask d
  | none => true
def maskC (mask : Nat) : Code → Bool
  | .region _ ops _ => ops.toList.all fun o => maskO mask o.dst
  | .seq a b => maskC mask a && maskC mask b
  | .cond _ a b => maskC mask a && maskC mask b
  | .block _ a => maskC mask a
  | .loop a => maskC mask a
  | .skip | .label _ | .exit _ | .goto _ | .ret => true
  | _ => false
def chk (P : Program) (n : Nat) : Ann → Code → Bool
  | .nil, .region _ ops false => ops.toList.all fun o => dstOk n o.dst
  | .draw p, .region _ ops true => (ops.toList.all fun o => dstOk n o.dst) && Region.noSelect ops && P.follows .mixedOrders && planOk ops p ops.size (Array.replicate ops.size false)
  | .nil, _ => true
  | .seq a b, .seq x y => chk P n a x && chk P n b y
  | .join l mask a b, .seq x y => chk P n a x && chk P n b y && maskC mask x && l.all fun p => Nat.testBit mask p.1
  | .cond a b, .cond _ x y => chk P n a x && chk P n b y
  | .block a, .block _ x => chk P n a x
  | .loop l mask a, .loop x => chk P n a x && maskC mask x && l.all fun p => Nat.testBit mask p.1
  | _, _ => false
/-- The results of a function, out of its slots or its memory. -/
def resW (P : Program) : List ResultVar → Env → World → (List Value → Prop) → Prop
  | [], _, _, F => F []
  | .tmp t :: r, ρ, w, F => resW P r ρ w (fun vs => F (ρ t :: vs))
  | .cell a t :: r, ρ, w, F => loadC (Cell w) P t (ρ a) (fun v => resW P r ρ w (fun vs => F (v :: vs)))
def retK (P : Program) (tys : List Ty) (rs : List ResultVar) (K : CurT tys) : Exit → Env → World → Prop
  | .ret, ρ, w => resW P rs ρ w (fun vs => getC tys vs K w)
  | .normal, ρ, w => resW P rs ρ w (fun vs => getC tys vs K w)
  | _, _, _ => False
end Go.V
