/- Soundness of the plain operations, the rest. -/
import Derived.Test.YtdgebnphgfbegaaOps
namespace Go.V
section sound
variable {P : Program} {w : World}
theorem run_bound {v : Value} {k : IntKind} {n : Int} {y : Nat} {c : BoundsCode} (hv : v = .int k n) (h0 : 0 ≤ n) (h1 : n ≤ (y : Int)) :
    (Instr.sliceBound v y c).run P w = .ok n.toNat w := by
  subst hv
  simp only [Instr.sliceBound, asIntOf, Sem.run_bind, Sem.run_pure, Result.andThen_ok, if_pos (And.intro h0 h1)]
theorem run_bounds {b : Bool} {len cap : Nat} {lo hi mx : Option Value} {l h m : Int} (hl : lowOf lo = some l) (hh : highOf len hi = some h) (hm : highOf cap mx = some m)
    (hx : mx.isSome = true → hi.isSome = true) (h0 : 0 ≤ l) (h1 : l ≤ h) (h2 : h ≤ m) (h3 : m ≤ (cap : Int)) :
    (Instr.sliceBounds b len cap lo hi mx).run P w = .ok (l.toNat, h.toNat, m.toNat) w := by
  have hl' : (lo = none ∧ l = 0) ∨ ∃ k, lo = some (.int k l) := by
    cases lo with
    | none => simp only [lowOf, Option.some.injEq] at hl; exact .inl ⟨rfl, hl.symm⟩
    | some v => cases v <;> simp only [lowOf, Option.some.injEq, reduceCtorEq] at hl; subst hl; exact .inr ⟨_, rfl⟩
  have hh' : (hi = none ∧ h = len) ∨ ∃ k, hi = some (.int k h) := by
    cases hi with
    | none => simp only [highOf, Option.some.injEq] at hh; exact .inl ⟨rfl, hh.symm⟩
    | some v => cases v <;> simp only [highOf, Option.some.injEq, reduceCtorEq] at hh; subst hh; exact .inr ⟨_, rfl⟩
  have hm' : (mx = none ∧ m = cap) ∨ ∃ k, mx = some (.int k m) := by
    cases mx with
    | none => simp only [highOf, Option.some.injEq] at hm; exact .inl ⟨rfl, hm.symm⟩
    | some v => cases v <;> simp only [highOf, Option.some.injEq, reduceCtorEq] at hm; subst hm; exact .inr ⟨_, rfl⟩
  clear hl hh hm
  unfold Instr.sliceBounds
  have b1 : ∀ {k c}, (Instr.sliceBound (.int k m) cap c).run P w = .ok m.toNat w := fun {k c} => run_bound rfl (by omega) h3
  have b2 : ∀ {k c}, (Instr.sliceBound (.int k h) m.toNat c).run P w = .ok h.toNat w := fun {k c} => run_bound rfl (by omega) (by omega)
  have b3 : ∀ {k c}, (Instr.sliceBound (.int k l) h.toNat c).run P w = .ok l.toNat w := fun {k c} => run_bound rfl h0 (by omega)
  rcases hm' with ⟨rfl, rfl⟩ | ⟨k1, rfl⟩ <;> rcases hh' with ⟨rfl, rfl⟩ | ⟨k2, rfl⟩ <;> rcases hl' with ⟨rfl, rfl⟩ | ⟨k3, rfl⟩ <;>
    (try simp only [Int.toNat_natCast] at b1 b2 b3) <;> simp [b1, b2, b3] <;> simp at hx
theorem mxhi {mx hi : Option Value} {A : Prop} (h : match mx, hi with
      | some _, none => False
      | _, _ => A) : (mx.isSome = true → hi.isSome = true) ∧ A := by
  cases mx <;> cases hi <;> simp_all
theorem sliceP_sound {t : TypeId} {x : Value} {lo hi mx : Option Value} {K : Value → Prop} (h : sliceP P t x lo hi mx K) : GivesS P (Instr.sliceAt t x lo hi mx) K := by
  unfold sliceP at h
  split at h
  · rename_i e a n c hu
    split at h
    · rename_i ie l hh m hi1 hl1 hh1 hm1
      obtain ⟨hx, h0, h1, h2, h3, hk⟩ := mxhi h
      refine ⟨_, fun w => ?_, hk _ rfl⟩
      have hb := run_bounds (P := P) (w := w) (b := true) hl1 hh1 hm1 hx h0 h1 h2 h3
      simp only [Instr.sliceAt, Instr.slice, Sem.run_bind, run_und hu, Result.andThen_ok, hb, run_size hi1, Sem.run_pure, cutA]
      have e1 : hh.toNat - l.toNat = (hh - l).toNat := by omega
      have e2 : m.toNat - l.toNat = (m - l).toNat := by omega
      rw [e1, e2]
    · exact h.elim
  · rename_i n e a hu
    split at h
    · rename_i ie l hh m hi1 hl1 hh1 hm1
      obtain ⟨hx, h0, h1, h2, h3, hk⟩ := mxhi h
      refine ⟨_, fun w => ?_, hk _ rfl⟩
      have hb := run_bounds (P := P) (w := w) (b := false) hl1 hh1 hm1 hx h0 h1 h2 h3
      simp only [Instr.sliceAt, Sem.run_bind, run_und hu, Result.andThen_ok, Instr.sureAddr, hb, run_size hi1, Sem.run_pure, cutA]
      have e1 : hh.toNat - l.toNat = (hh - l).toNat := by omega
      have e2 : m.toNat - l.toNat = (m - l).toNat := by omega
      rw [e1, e2]
      split <;> simp
    · exact h.elim
  · rename_i s hu
    split at h
    · rename_i l hh hl1 hh1
      obtain ⟨h0, h1, h2, hk⟩ := h
      refine ⟨_, fun w => ?_, hk⟩
      have hb := run_bounds (P := P) (w := w) (b := false) (cap := s.size) (mx := none) hl1 hh1 (m := s.size) rfl (by simp) h0 h1 h2 (Int.le_refl _)
      simp only [Instr.sliceAt, Instr.slice, Sem.run_bind, run_und hu, Result.andThen_ok, hb, Sem.run_pure, Option.isSome_none, Bool.false_eq_true, if_false]
    · exact h.elim
  · exact h.elim
theorem lenP_sound {t : TypeId} {x : Value} {K : Value → Prop} (h : lenP P t x K) {ty : TypeId} : GivesS P (Builtin.len_ #[t] ty #[x]) K := by
  unfold lenP at h
  split at h
  · rename_i s hu; exact ⟨_, fun w => by simp [Builtin.len_, run_und hu, goInt], h⟩
  · rename_i n e hu; exact ⟨_, fun w => by simp [Builtin.len_, run_und hu, goInt], h⟩
  · rename_i e a n c hu; exact ⟨_, fun w => by simp [Builtin.len_, run_und hu, goInt], h⟩
  · rename_i e hu
    split at h
    · rename_i n e' hu2; exact ⟨_, fun w => by simp [Builtin.len_, run_und hu, run_und hu2, goInt], h⟩
    · exact h.elim
  · exact h.elim
theorem capP_sound {t : TypeId} {x : Value} {K : Value → Prop} (h : capP P t x K) {ty : TypeId} : GivesS P (Builtin.cap_ #[t] ty #[x]) K := by
  unfold capP at h
  split at h
  · rename_i e a n c hu; exact ⟨_, fun w => by simp [Builtin.cap_, run_und hu, goInt], h⟩
  · exact h.elim
theorem strIxP_sound {t : TypeId} {x i : Value} {K : Value → Prop} (hu : P.underlying t = some .string) (h : strIxP x i K) : GivesS P (Instr.index t x i) K := by
  unfold strIxP at h
  split at h
  · rename_i s k n
    obtain ⟨b, h0, hb, hk⟩ := h
    refine ⟨_, fun w => ?_, hk⟩
    have : s[n.toNat]? = some b := by
      obtain ⟨hlt, he⟩ := List.getElem?_eq_some_iff.1 hb
      have hlt' : n.toNat < s.size := by simpa using hlt
      rw [getElem?_pos s n.toNat hlt']
      congr 1
    simp only [Instr.index, asIntOf, Sem.run_bind, Sem.run_pure, run_und hu, Result.andThen_ok, if_pos h0, this]
  · exact h.elim
theorem partP_sound {s : TypeId} {x : Value} {f : Nat} {K : Value → Prop} (h : partP P s x f K) : GivesS P (Instr.field s x f) K := by
  unfold partP at h
  split at h
  · rename_i fs cs hu
    split at h
    · rename_i fd hf
      split at h
      · rename_i i d hi hd
        cases ha : isAggD d with
        | true =>
          rw [ha] at h
          refine ⟨_, fun w => ?_, h⟩
          simp only [Instr.field, Sem.run_bind, run_und hu, Result.andThen_ok, hf, asAgg, Sem.run_pure, run_part hi hd, ha, cond_true]
          congr 2
          apply Array.toList_inj.1
          simp [List.extract, Array.toList_extract]
        | false =>
          rw [ha] at h
          simp only [cond_false] at h
          split at h
          · rename_i v hv
            refine ⟨_, fun w => ?_, h⟩
            simp only [Instr.field, Sem.run_bind, run_und hu, Result.andThen_ok, hf, asAgg, Sem.run_pure, run_part hi hd, ha, cond_false, hv]
          · exact h.elim
      · exact h.elim
    · exact h.elim
  · exact h.elim

theorem fill_cells (off : Nat) : ∀ (vs : List Value) (k : Nat) (cells : Array Value),
    ((vs.zipIdx k).foldl (fun cs (p : Value × Nat) => cs.setIfInBounds (off + p.2) p.1) cells).toList = setL cells.toList (off + k) vs
  | [], k, cells => rfl
  | v :: vs, k, cells => by
    simp only [List.zipIdx_cons, List.foldl_cons]
    rw [fill_cells off vs (k + 1)]
    simp [setL, Nat.add_assoc]
theorem cellsL_eq (v : Value) : cellsL v = v.cells.toList := by cases v <;> rfl
theorem length_setL : ∀ (vs cs : List Value) (o : Nat), (setL cs o vs).length = cs.length
  | [], _, _ => rfl
  | v :: vs, cs, o => by rw [setL, length_setL vs]; simp
theorem setL_parts : ∀ (vs cs : List Value) (o : Nat), o + vs.length ≤ cs.length → setL cs o vs = cs.take o ++ (vs ++ cs.drop (o + vs.length))
  | [], cs, o, h => by simp [setL]
  | v :: vs, cs, o, h => by
    simp only [List.length_cons] at h
    rw [setL, setL_parts vs (cs.set o v) (o + 1) (by simp; omega)]
    have h1 : (cs.set o v).take (o + 1) = cs.take o ++ [v] := by
      rw [List.take_add_one, List.take_set_of_le (Nat.le_refl _), List.getElem?_set_self (by omega)]; simp
    have h2 : (cs.set o v).drop (o + 1 + vs.length) = cs.drop (o + 1 + vs.length) := by
      rw [List.drop_set_of_lt (by omega)]
    rw [h1, h2, List.length_cons, show o + (vs.length + 1) = o + 1 + vs.length by omega]
    simp
theorem fill_sound {fs : Array Field} {places : Array (Nat × Nat)} (hp : ∀ (i : Nat) (f : Field) (j : TypeInfo), fs[i]? = some f → P.info? f.type = some j → places[i]? = some (f.offset, j.size)) {ρ : Env} :
    ∀ (parts : List (Nat × Operand)) (cells : Array Value) (out : List Value), buildL P fs ρ cells.toList parts = some out →
      Instr.fill (places[·]?) cells (parts.map fun p => (p.1, ev ρ p.2)) = some out.toArray
  | [], cells, out, h => by simp only [buildL, Option.some.injEq] at h; subst h; simp [Instr.fill]
  | (i, x) :: r, cells, out, h => by
    unfold buildL at h
    split at h
    · rename_i f hf
      split at h
      · rename_i j hj
        cases hc : (Nat.beq (cellsL (ev ρ x)).length j.size && Nat.ble (f.offset + j.size) cells.toList.length) with
        | false => rw [hc] at h; simp at h
        | true =>
          rw [hc] at h
          simp only [cond_true] at h
          simp only [Bool.and_eq_true, Nat.beq_eq, Nat.ble_eq, cellsL_eq, Array.length_toList] at hc
          simp only [List.map_cons, Instr.fill, hp i f j hf hj]
          have e1 : ¬ ((decide ((ev ρ x).cells.size ≠ j.size) || decide (f.offset + (ev ρ x).cells.size > cells.size)) = true) := by
            simp [hc.1]; omega
          rw [if_neg e1]
          have e2 := fill_cells f.offset (ev ρ x).cells.toList 0 cells
          refine fill_sound hp r _ out ?_
          rw [← h]
          congr 1
          rw [← Array.foldl_toList, Array.toList_zipIdx]
          rw [cellsL_eq]
          exact e2
      · simp at h
    · simp at h
theorem mapM_places : ∀ (fs : List Field), (fs.all fun f => (P.info? f.type).isSome) = true →
    ∃ l : List (Nat × Nat), (∀ w, (fs.mapM fun f => (do pure (f.offset, ← sizeOf f.type) : Sem (Nat × Nat))).run P w = .ok l w) ∧ l.length = fs.length ∧
      ∀ (i : Nat) (f : Field) (j : TypeInfo), fs[i]? = some f → P.info? f.type = some j → l[i]? = some (f.offset, j.size)
  | [], _ => ⟨[], fun w => by simp, rfl, by simp⟩
  | f :: fs, h => by
    simp only [List.all_cons, Bool.and_eq_true] at h
    obtain ⟨l, h1, h2, h3⟩ := mapM_places fs h.2
    obtain ⟨j, hj⟩ := Option.isSome_iff_exists.1 h.1
    refine ⟨(f.offset, j.size) :: l, fun w => by simp only [List.mapM_cons, Sem.run_bind, run_size hj, h1, Result.andThen_ok, Sem.run_pure], by simp [h2], ?_⟩
    intro i g k hg hk
    cases i with
    | zero => simp at hg; subst hg; rw [hj] at hk; cases hk; rfl
    | succ i => simp at hg ⊢; exact h3 i g k hg hk
theorem buildR_L {fs : Array Field} {ρ : Env} : ∀ (parts : List (Nat × Operand)) (cs : List Value) (K : List Value → Prop), buildR P fs ρ cs parts K → ∃ out, buildL P fs ρ cs parts = some out ∧ K out
  | [], cs, K, h => ⟨cs, rfl, h⟩
  | (i, x) :: r, cs, K, h => by
    unfold buildR at h
    unfold buildL
    split at h
    · rename_i f hf
      split at h
      · rename_i j hj
        cases hr : rowT P f.type with
        | true =>
          rw [hr] at h
          simp only [cond_true] at h
          obtain ⟨h1, h2⟩ := h
          cases hb : Nat.ble (f.offset + j.size) cs.length with
          | false => rw [hb] at h2; exact h2.elim
          | true =>
            rw [hb] at h2
            simp only [cond_true] at h2
            have hle := Nat.le_of_ble_eq_true hb
            obtain ⟨out, ho, hk⟩ := buildR_L r _ K h2
            refine ⟨out, ?_, hk⟩
            have e : Nat.beq (cellsL (ev ρ x)).length j.size = true := by rw [h1]; exact Nat.beq_refl _
            rw [e]
            simp only [Bool.true_and, cond_true]
            rw [setL_parts _ _ _ (by rw [h1]; exact hle), h1]; exact ho
        | false =>
          rw [hr] at h
          simp only [cond_false] at h
          cases hb : (Nat.beq (cellsL (ev ρ x)).length j.size && Nat.ble (f.offset + j.size) cs.length) with
          | false => rw [hb] at h; exact h.elim
          | true =>
            rw [hb] at h
            simp only [cond_true] at h ⊢
            exact buildR_L r _ K h
      · exact h.elim
    · exact h.elim
theorem buildP_sound {t : TypeId} {ρ : Env} {parts : Array (Nat × Operand)} {K : Value → Prop} (h : buildP P t ρ parts.toList K) :
    GivesS P (Instr.build t (parts.map fun (i, x) => (i, ev ρ x))) K := by
  unfold buildP at h
  split at h
  · rename_i i fs hi hu
    split at h
    · rename_i zs hz
      cases ha : fs.toList.all fun f => (P.info? f.type).isSome with
      | false => rw [ha] at h; exact h.elim
      | true =>
        rw [ha] at h
        simp only [cond_true] at h
        have h' : ∃ cs, buildL P fs ρ zs.toList parts.toList = some cs ∧ K (.agg cs.toArray) := by
          cases hr : rowT P t with
          | true => rw [hr] at h; exact buildR_L _ _ _ h
          | false =>
            rw [hr] at h
            simp only [cond_false] at h
            split at h
            · rename_i cs hcs; exact ⟨cs, hcs, h⟩
            · exact h.elim
        obtain ⟨cs, hcs, h⟩ := h'
        · obtain ⟨l, h1, h2, h3⟩ := mapM_places (P := P) fs.toList ha
          refine ⟨_, fun w => ?_, h⟩
          have e : (fs.mapM fun f => (do pure (f.offset, ← sizeOf f.type) : Sem (Nat × Nat))).run P w = .ok l.toArray w := by
            rw [Array.mapM_eq_mapM_toList, Sem.run_map, h1]; rfl
          have e2 := fill_sound (P := P) (fs := fs) (places := l.toArray) (ρ := ρ) (fun i f j hf hj => by simpa using h3 i f j (by simpa using hf) hj) parts.toList zs cs hcs
          simp only [Instr.build, Sem.run_bind, run_zero hi hz, run_und hu, Result.andThen_ok, e]
          have e3 : (parts.map fun (x : Nat × Operand) => (x.1, ev ρ x.2)).toList = parts.toList.map fun p => (p.1, ev ρ p.2) := by simp
          simp only [Value.cells, e3, e2, Sem.run_pure]
    · exact h.elim
  · exact h.elim
theorem map_arr (f : Operand → Value) (a : Array Operand) : a.map f = (a.toList.map f).toArray := by
  apply Array.toList_inj.1; simp
theorem opP_sound {o : Oper} {ρ : Env} {K : Value → Prop} (h : opP P o ρ K) : ∃ v, Gives P o (ev ρ) v ∧ K v := by
  obtain ⟨dst, op, type, pos, after, guard⟩ := o
  have lift : ∀ {s : Sem Value}, (∀ ε : Operand → Value, ε = ev ρ → execOp ε ⟨dst, op, type, pos, after, guard⟩ = (do pure (Next.value (← s)))) → GivesS P s K → ∃ v, Gives P ⟨dst, op, type, pos, after, guard⟩ (ev ρ) v ∧ K v := by
    intro s he ⟨v, hv, hk⟩
    exact ⟨v, fun w => by rw [he _ rfl, Sem.run_bind, hv w]; rfl, hk⟩
  cases op <;> simp only [opP] at h <;> try exact h.elim
  case move x => exact ⟨_, fun w => rfl, h⟩
  case assign x => exact ⟨_, fun w => rfl, h⟩
  case pick c a b =>
    split at h
    · rename_i t ht
      cases t
      · exact ⟨ev ρ b, fun w => by simp [execOp, ht, asBool], h⟩
      · exact ⟨ev ρ a, fun w => by simp [execOp, ht, asBool], h⟩
    · exact h.elim
  case nilCheck x =>
    split at h
    · rename_i p hp
      obtain ⟨a, rfl, hk⟩ := h
      exact ⟨_, fun w => by simp [execOp, hp], hk⟩
    · rename_i t v hp; exact ⟨_, fun w => by simp [execOp, hp], h⟩
    · rename_i f a b hp; exact ⟨_, fun w => by simp [execOp, hp], h⟩
    · exact h.elim
  case binOp op t x y t' => exact lift (s := do eqGuard op t x y (ev ρ x) (ev ρ y); binOp op t (ev ρ x) (ev ρ y)) (fun ε e => by subst e; simp [execOp]) (binP_sound h)
  case unOp op t x => exact lift (fun ε e => by subst e; rfl) (unP_sound h)
  case convert s d x => exact lift (fun ε e => by subst e; rfl) (convP_sound h)
  case fieldAddr s x f => exact lift (fun ε e => by subst e; rfl) (fieldP_sound h)
  case field s x f => exact lift (fun ε e => by subst e; rfl) (partP_sound h)
  case indexAddr t x i => exact lift (fun ε e => by subst e; rfl) (indexP_sound h)
  case index t x i =>
    split at h
    · rename_i hu; exact lift (fun ε e => by subst e; rfl) (strIxP_sound hu h)
    · exact h.elim
  case slice t x lo hi mx => exact lift (fun ε e => by subst e; rfl) (sliceP_sound h)
  case build t ps => exact lift (fun ε e => by subst e; rfl) (buildP_sound h)
  case makeFunc fn first captured =>
    cases fn <;> (try simp only at h) <;> try exact h.elim
    rename_i f
    refine lift (s := Instr.makeFunc (.func f) (first.map (ev ρ)) (captured.map (ev ρ))) (fun ε e => by subst e; rfl) ⟨_, fun w => ?_, h⟩
    simp only [Instr.makeFunc, map_arr, Sem.run_pure]
  case makeInterface t x =>
    split at h
    · exact h.elim
    · rename_i d hne hu
      refine lift (fun ε e => by subst e; rfl) ⟨_, fun w => ?_, h⟩
      simp only [Instr.makeInterface, Sem.run_bind, run_und hu, Result.andThen_ok]
      cases d <;> first | rfl | exact absurd rfl (hne _)
    · exact h.elim
  case sliceToArrayPointer t x =>
    split at h
    · rename_i n e a len c hu hv
      obtain ⟨hle, a, rfl, hk⟩ := h
      refine lift (fun ε e => by subst e; rfl) ⟨_, fun w => ?_, hk⟩
      rw [hv]
      simp only [Instr.arrayAt, Sem.run_bind, run_und hu, Result.andThen_ok]
      rw [if_neg (by omega)]; rfl
    · exact h.elim
  case extract x i =>
    split at h
    · rename_i vs hv
      split at h
      · rename_i v hi
        refine lift (fun ε e => by subst e; rfl) ⟨_, fun w => ?_, h⟩
        simp only [Instr.extract, hv, ← Array.getElem?_toList, hi]; rfl
      · exact h.elim
    · exact h.elim
  case call c =>
    obtain ⟨callee, args, argTypes⟩ := c
    cases callee <;> simp only at h <;> try exact h.elim
    rename_i b
    have hc : ∀ (s : Sem Value), (builtin b argTypes type (args.map fun | .const _ => true | _ => false) (args.map (ev ρ)) = (do pure (Next.value (← s)))) → GivesS P s K → ∃ v, Gives P ⟨dst, .call ⟨.builtin b, args, argTypes⟩, type, pos, after, guard⟩ (ev ρ) v ∧ K v := by
      intro s he hs
      refine lift (s := s) (fun ε e => ?_) hs
      subst e
      simp only [execOp, resolve, pure_bind, invoke]
      exact he
    have ha : args = args.toList.toArray := rfl
    have ht : argTypes = argTypes.toList.toArray := rfl
    split at h
    · rename_i x t hx htt
      rw [hx] at ha; rw [htt] at ht; subst ha; subst ht
      exact hc (Builtin.len_ #[t] type #[ev ρ x]) (by simp [builtin]) (lenP_sound h)
    · rename_i x t hx htt
      rw [hx] at ha; rw [htt] at ht; subst ha; subst ht
      exact hc (Builtin.cap_ #[t] type #[ev ρ x]) (by simp [builtin]) (capP_sound h)
    · rename_i x y hx
      rw [hx] at ha; subst ha
      split at h
      · rename_i k a k' b' h1 h2
        refine hc (Builtin.max_ argTypes type #[ev ρ x, ev ρ y]) (by simp [builtin]) ⟨_, fun w => ?_, h.out⟩
        simp [Builtin.max_, h1, h2, Builtin.max2, iMax]
      · exact h.elim
    · rename_i x y hx
      rw [hx] at ha; subst ha
      split at h
      · rename_i k a k' b' h1 h2
        refine hc (Builtin.min_ argTypes type #[ev ρ x, ev ρ y]) (by simp [builtin]) ⟨_, fun w => ?_, h.out⟩
        simp [Builtin.min_, h1, h2, Builtin.min2, iMin]
      · exact h.elim
    · exact h.elim
end sound
end Go.V
