/- Soundness of new memory and of calls; all operations together. -/
import Derived.Test.YtdgebnphgfbegaaActsB
import Derived.IntWalk
namespace Go.V
section sound
variable {P : Program} {w : World}
theorem setL_eq : ∀ (vs cs : List Value) (o : Nat), o + vs.length ≤ cs.length → setL cs o vs = cs.take o ++ vs ++ cs.drop (o + vs.length)
  | [], cs, o, _ => by simp [setL]
  | v :: vs, cs, o, h => by
    simp only [List.length_cons] at h
    rw [setL, setL_eq vs (cs.set o v) (o + 1) (by simp; omega)]
    rw [List.take_set, List.drop_set_of_lt (by omega)]
    have ho : o < cs.length := by omega
    have e1 : (cs.take (o + 1)).set o v = cs.take o ++ [v] := by
      rw [List.take_succ_eq_append_getElem ho]
      rw [List.set_append_right _ _ (by simp; omega)]
      have : o - (List.take o cs).length = 0 := by simp; omega
      rw [this]; rfl
    rw [e1]
    simp [List.append_assoc]
    congr 1; omega
theorem elems_sound {ρ : Env} {n sz : Nat} : ∀ (parts : List (Nat × Operand)) (i : Nat) (cells : Array Value) (out : List Value), elemsL ρ n sz i parts = some out → cells.size = n * sz → i ≤ n →
    Instr.fill (fun i => some (i * sz, sz)) cells (parts.map fun p => (p.1, ev ρ p.2)) = some (cells.toList.take (i * sz) ++ out).toArray ∧ out.length = (n - i) * sz
  | [], i, cells, out, h, hc, hi => by
    unfold elemsL at h
    cases hb : Nat.beq i n with
    | false => rw [hb] at h; cases h
    | true =>
      rw [hb] at h
      simp only [cond_true, Option.some.injEq] at h
      subst h
      have := Nat.eq_of_beq_eq_true hb
      subst this
      simp [Instr.fill, List.take_of_length_le, ← hc]
  | (j, x) :: r, i, cells, out, h, hc, hi => by
    unfold elemsL at h
    cases hb : (Nat.beq i j && Nat.beq (cellsL (ev ρ x)).length sz) with
    | false => rw [hb] at h; cases h
    | true =>
      rw [hb] at h
      simp only [cond_true, Option.map_eq_some_iff] at h
      obtain ⟨out', ho, rfl⟩ := h
      simp only [Bool.and_eq_true, Nat.beq_eq] at hb
      obtain ⟨rfl, hl⟩ := hb
      rw [cellsL_eq] at hl
      have hin : i < n := by
        rcases Nat.lt_or_ge i n with h | h
        · exact h
        · exfalso
          have : i = n := by omega
          subst this
          cases r with
          | nil => exact no_more _ _ _ (by omega) ho
          | cons p r => exact no_more _ _ _ (by omega) ho
      have hsz : i * sz + sz ≤ n * sz := by
        have : (i + 1) * sz ≤ n * sz := Nat.mul_le_mul_right sz hin
        rw [Nat.add_mul] at this; omega
      simp only [List.map_cons, Instr.fill]
      have e1 : ¬ ((decide ((ev ρ x).cells.size ≠ sz) || decide (i * sz + (ev ρ x).cells.size > cells.size)) = true) := by
        have : (ev ρ x).cells.size = sz := by simpa using hl
        simp [this, hc]; omega
      rw [if_neg e1]
      have e2 := fill_cells (i * sz) (ev ρ x).cells.toList 0 cells
      rw [Nat.add_zero, setL_eq _ _ _ (by rw [hl, Array.length_toList, hc]; exact hsz), hl] at e2
      have e3 : (Array.foldl (fun cs (p : Value × Nat) => cs.setIfInBounds (i * sz + p.2) p.1) cells (ev ρ x).cells.zipIdx).toList = cells.toList.take (i * sz) ++ (ev ρ x).cells.toList ++ cells.toList.drop (i * sz + sz) := by
        rw [← Array.foldl_toList, Array.toList_zipIdx]; exact e2
      obtain ⟨h1, h2⟩ := elems_sound r (i + 1) (Array.foldl (fun cs (p : Value × Nat) => cs.setIfInBounds (i * sz + p.2) p.1) cells (ev ρ x).cells.zipIdx) out' ho (by
        rw [← Array.length_toList, e3]; simp only [List.length_append, List.length_take, List.length_drop, Array.length_toList, hc, hl]
        have : (ev ρ x).cells.size = sz := by simpa using hl
        omega) (by omega)
      refine ⟨?_, ?_⟩
      · rw [h1, e3]
        congr 2
        rw [cellsL_eq]
        have e4 : (i + 1) * sz = i * sz + sz := by rw [Nat.add_mul]; omega
        rw [e4]
        have hlen : (cells.toList.take (i * sz) ++ (ev ρ x).cells.toList).length = i * sz + sz := by
          simp only [List.length_append, List.length_take, Array.length_toList, hc]
          have : (ev ρ x).cells.size = sz := by simpa using hl
          omega
        rw [List.take_append_of_le_length (by rw [hlen]; exact Nat.le_refl _), List.take_of_length_le (by rw [hlen]; exact Nat.le_refl _), List.append_assoc]
      · rw [List.length_append, h2, cellsL_eq, hl]
        have : n - i = (n - (i + 1)) + 1 := by omega
        rw [this, Nat.add_mul]; omega
where
  no_more {ρ : Env} {n sz : Nat} : ∀ (parts : List (Nat × Operand)) (i : Nat) (out : List Value), n < i → elemsL ρ n sz i parts = some out → False
  | [], i, out, h, he => by
    unfold elemsL at he
    have : Nat.beq i n = false := by
      cases hb : Nat.beq i n with
      | false => rfl
      | true => have := Nat.eq_of_beq_eq_true hb; omega
    rw [this] at he; cases he
  | (j, x) :: r, i, out, h, he => by
    unfold elemsL at he
    cases hb : (Nat.beq i j && Nat.beq (cellsL (ev ρ x)).length sz) with
    | false => rw [hb] at he; cases he
    | true =>
      rw [hb] at he
      simp only [cond_true, Option.map_eq_some_iff] at he
      obtain ⟨o, ho, _⟩ := he
      exact no_more r (i + 1) o (by omega) ho
theorem elemsR_L {ρ : Env} {n sz : Nat} : ∀ (parts : List (Nat × Operand)) (i : Nat) (K : List Value → Prop), elemsR ρ n sz i parts K → ∃ cs, elemsL ρ n sz i parts = some cs ∧ K cs
  | [], i, K, h => by
    unfold elemsR at h
    unfold elemsL
    cases hb : Nat.beq i n with
    | false => rw [hb] at h; exact h.elim
    | true => rw [hb] at h; exact ⟨[], rfl, h⟩
  | (j, x) :: r, i, K, h => by
    unfold elemsR at h
    unfold elemsL
    cases hb : Nat.beq i j with
    | false => rw [hb] at h; exact h.elim
    | true =>
      rw [hb] at h
      simp only [cond_true] at h
      obtain ⟨h1, h2⟩ := h
      obtain ⟨cs, hc, hk⟩ := elemsR_L r (i + 1) _ h2
      refine ⟨_, ?_, hk⟩
      have e : Nat.beq (cellsL (ev ρ x)).length sz = true := by rw [h1]; exact Nat.beq_refl _
      rw [e, hc]; rfl
theorem newSliceW_sound {t : TypeId} {n : Nat} {ρ : Env} {parts : Array (Nat × Operand)} {K : Value → World → Prop} (h : newSliceW P t n ρ parts.toList K w) :
    ∃ v w', (Instr.buildSlice t n (parts.map fun (i, x) => (i, ev ρ x))).run P w = .ok v w' ∧ K v w' := by
  unfold newSliceW at h
  split at h
  · rename_i e hu
    split at h
    · rename_i ie hi
      cases hb : Nat.ble (n * ie.size) 16777216 with
      | false => rw [hb] at h; exact h.elim
      | true =>
        rw [hb] at h
        simp only [cond_true] at h
        have h' : ∃ z cs, ie.zero = some z ∧ elemsL ρ n ie.size 0 parts.toList = some cs ∧ NewW w (.cells cs.toArray e) fun b w' => K (.slice (some ⟨b, 0, none⟩) n n) w' := by
          cases hr : rowT P e with
          | true =>
            rw [hr] at h
            simp only [cond_true] at h
            cases hz : ie.zero with
            | none => rw [hz] at h; exact h.elim
            | some z =>
              rw [hz] at h
              obtain ⟨cs, h1, h2⟩ := elemsR_L _ _ _ h
              exact ⟨z, cs, rfl, h1, h2⟩
          | false =>
            rw [hr] at h
            simp only [cond_false] at h
            split at h
            · rename_i z cs hz hcs; exact ⟨z, cs, hz, hcs, h⟩
            · exact h.elim
        obtain ⟨z, cs, hz, hcs, h⟩ := h'
        · refine ⟨_, _, ?_, h w.heap.size _ ⟨rfl, rfl⟩⟩
          have hle : ¬ (n * ie.size > 2 ^ 24) := by have := Nat.le_of_ble_eq_true hb; omega
          have e3 : (parts.map fun (x : Nat × Operand) => (x.1, ev ρ x.2)).toList = parts.toList.map fun p => (p.1, ev ρ p.2) := by simp
          have fin : ∀ zero : Array Value, Instr.fill (fun i => some (i * ie.size, ie.size)) ((Array.range (n * ie.size)).map (fun x => zero[x % zero.size]!)) (parts.toList.map fun p => (p.1, ev ρ p.2)) = some cs.toArray := fun zero => by
            have := (elems_sound (ρ := ρ) (n := n) (sz := ie.size) parts.toList 0 ((Array.range (n * ie.size)).map (fun x => zero[x % zero.size]!)) cs hcs (by simp) (Nat.zero_le _)).1
            simpa using this
          by_cases h0 : n * ie.size = 0
          · have := fin #[]
            rw [h0] at this
            have e4 : ¬ (0 > 2 ^ 24) := by decide
            simp only [Instr.buildSlice, Sem.run_bind, run_und hu, run_size hi, Result.andThen_ok, h0, if_true, e3, if_neg e4, Sem.run_pure]
            simp only [this, Sem.run_bind, run_newRow, Result.andThen_ok, Sem.run_pure]
          · simp only [Instr.buildSlice, Sem.run_bind, run_und hu, run_size hi, Result.andThen_ok, if_neg hle, if_neg h0, Sem.run_pure, e3, run_zero hi hz]
            have := fin z.cells
            simp only [this, Sem.run_bind, run_newRow, Result.andThen_ok, Sem.run_pure]
    · exact h.elim
  · exact h.elim
theorem rep_flat (zs : List Value) (hz : 0 < zs.length) : ∀ c : Nat, (List.range (c * zs.length)).map (fun i => zs.toArray[i % zs.length]!) = (List.replicate c zs).flatten
  | 0 => by simp
  | c + 1 => by
    have ih := rep_flat zs hz c
    rw [Nat.add_mul, Nat.one_mul, List.range_add, List.map_append, ih, List.replicate_succ', List.flatten_append]
    congr 1
    simp only [List.map_map, List.flatten_cons, List.flatten_nil, List.append_nil]
    apply List.ext_getElem (by simp)
    intro i h1 h2
    simp only [List.getElem_map, List.getElem_range, Function.comp]
    have e : (c * zs.length + i) % zs.length = i := by rw [Nat.mul_comm, Nat.mul_add_mod]; exact Nat.mod_eq_of_lt h2
    rw [e, getElem!_pos zs.toArray i (by simpa using h2)]
    simp
theorem run_askRoom {n : Nat} : (askRoom n).run P w = .ok () w := by
  unfold askRoom; split <;> simp [mark, Sem.run]
theorem makeW_sound {t : TypeId} {l c : Value} {K : Value → World → Prop} (h : makeW P t l c K w) : ∃ v w', (Instr.makeSlice t l c).run P w = .ok v w' ∧ K v w' := by
  unfold makeW at h
  split at h
  · rename_i e hu
    split at h
    · rename_i ie hi
      split at h
      · rename_i z k1 l k2 c hz
        cases hb : (Nat.beq (cellsL z).length ie.size && Nat.blt 0 ie.size) with
        | false => rw [hb] at h; exact h.elim
        | true =>
          rw [hb] at h
          simp only [Bool.and_eq_true, Nat.beq_eq] at hb
          have hpos : 0 < ie.size := Nat.le_of_ble_eq_true hb.2
          obtain ⟨h0, h1, h2, h3, hk⟩ := h
          refine ⟨_, _, ?_, hk w.heap.size _ ⟨rfl, rfl⟩⟩
          have wl : IntKind.i64.wrap l = l := IntWalk.i64_in l ⟨by omega, by omega⟩
          have wc : IntKind.i64.wrap c = c := IntWalk.i64_in c ⟨by omega, by omega⟩
          have t1 : (decide (c < 0) || decide ((ie.bytes : Int) * c > 2 ^ 48)) = false := by simp; omega
          have t2 : (decide (l < 0)) = false := by simp; omega
          have t3 : (decide (l > c)) = false := by simp; omega
          have e1 : (zs : List Value) → zs.length = ie.size → (Array.range (c.toNat * ie.size)).map (fun i => zs.toArray[i % zs.toArray.size]!) = (List.replicate c.toNat zs).flatten.toArray := fun zs hzs => by
            apply Array.toList_inj.1
            simp only [Array.toList_map, Array.toList_range]
            have := rep_flat zs (by omega) c.toNat
            rw [hzs] at this
            simp only [List.size_toArray, hzs]
            exact this
          have ez : z.cells = (cellsL z).toArray := by rw [cellsL_eq]
          simp only [Instr.makeSlice, Sem.run_bind, run_und hu, Result.andThen_ok, asInt, asIntOf, Sem.run_pure, run_info hi, wl, wc, t1, t2, t3, Bool.or_false, Bool.false_eq_true, if_false, run_askRoom, run_size hi]
          by_cases hn : c.toNat * ie.size = 0
          · have hc0 : c.toNat = 0 := by rcases Nat.mul_eq_zero.1 hn with h | h <;> omega
            simp only [hn, if_true]
            rw [hc0]; simp [run_newRow, Array.range]
          · simp only [if_neg hn, Sem.run_bind, run_zero hi hz, Result.andThen_ok, Sem.run_pure, run_newRow, ez]
            rw [e1 _ hb.1]
      · exact h.elim
    · exact h.elim
  · exact h.elim
theorem exTy_elim {t : Ty} {K : Value → Prop} (h : exTy t K) : ∃ v, K v := by
  cases t with
  | one s => obtain ⟨x, hx⟩ := h; exact ⟨_, hx⟩
  | agg l =>
    have : ∀ (l : List Seg) (K : List Value → Prop), exS l K → ∃ vs, K vs := by
      intro l
      induction l with
      | nil => exact fun K h => ⟨_, h⟩
      | cons s r ih =>
        intro K h
        cases s with
        | one s => obtain ⟨x, hx⟩ := h; obtain ⟨vs, hv⟩ := ih _ hx; exact ⟨_, hv⟩
        | row k n => obtain ⟨l, _, hx⟩ := h; obtain ⟨vs, hv⟩ := ih _ hx; exact ⟨_, hv⟩
    obtain ⟨vs, hv⟩ := this l _ h
    exact ⟨_, hv⟩
  | bad => exact h.elim
theorem exVs_elim : ∀ (ts : List Ty) (K : List Value → Prop), exVs ts K → ∃ vs, K vs
  | [], K, h => ⟨_, h⟩
  | t :: ts, K, h => by
    obtain ⟨v, hv⟩ := exTy_elim h
    obtain ⟨vs, hvs⟩ := exVs_elim ts _ hv
    exact ⟨_, hvs⟩
theorem OpOk.of_value {o : Oper} {ε : Operand → Value} {K : Value → World → Prop} {v : Value} {w' : World} (h : (execOp ε o).run P w = .ok (.value v) w') (hk : K v w') : OpOk P o ε K w := by
  unfold OpOk; rw [h]; exact hk
theorem callFunc_run {n : Nat} {fn : Func} {args : Array Value} (hf : P.funcs[n]? = some fn) (hc : callable fn = true) : (callFunc n args).run P w = .ok (.enter n args) w := by
  simp only [callable, Bool.and_eq_true, Bool.not_eq_true'] at hc
  have h1 : fn.body ≠ none := by cases hb : fn.body <;> simp_all
  have h2 : fn.name ≠ "runtime.NumGoroutine" := by simpa using hc.2
  simp [callFunc, program, Sem.run, hf, h1, h2]
theorem opW_sound {o : Oper} {ρ : Env} {K : Value → World → Prop} (h : opW P o ρ K w) : OpOk P o (ev ρ) K w := by
  obtain ⟨dst, op, type, pos, after, guard⟩ := o
  have plain : opP P ⟨dst, op, type, pos, after, guard⟩ ρ (fun v => K v w) → OpOk P ⟨dst, op, type, pos, after, guard⟩ (ev ρ) K w := fun h => by
    obtain ⟨v, hv, hk⟩ := opP_sound h
    exact .of_value (hv w) hk
  cases op <;> simp only [opW] at h <;> try exact plain h
  case load t x =>
    obtain ⟨v, h1, h2⟩ := loadC_sound h
    exact .of_value (by simp only [execOp, Sem.run_bind, h1 w (fun _ _ h => h), Result.andThen_ok, Sem.run_pure]) h2
  case store t x v =>
    obtain ⟨w', h1, h2⟩ := storeW_sound h
    unfold OpOk
    simp only [execOp, Sem.run_bind, h1, Result.andThen_ok, Sem.run_pure]
    exact h2
  case alloc t =>
    unfold allocW at h
    split at h
    · rename_i i hi
      split at h
      · rename_i z hz
        refine .of_value (w' := World.pushBlk w (.cells (cellsL z).toArray t)) (v := .pointer (some ⟨w.heap.size, 0, none⟩)) ?_ (h w.heap.size _ ⟨rfl, rfl⟩)
        simp only [execOp, Instr.alloc, Sem.run_bind, run_zero hi hz, Result.andThen_ok, newVar, run_newRow, Sem.run_pure, cellsL_eq]
      · exact h.elim
    · exact h.elim
  case box t x =>
    refine .of_value (w' := World.pushBlk w (.cells (cellsL (ev ρ x)).toArray t)) (v := .pointer (some ⟨w.heap.size, 0, none⟩)) ?_ (h w.heap.size _ ⟨rfl, rfl⟩)
    simp only [execOp, Instr.box, Sem.run_bind, Result.andThen_ok, newVar, run_newRow, Sem.run_pure, cellsL_eq]
  case buildSlice t n ps =>
    obtain ⟨v, w', h1, h2⟩ := newSliceW_sound h
    exact .of_value (by simp only [execOp, Sem.run_bind, h1, Result.andThen_ok, Sem.run_pure]) h2
  case makeSlice t l c =>
    obtain ⟨v, w', h1, h2⟩ := makeW_sound h
    exact .of_value (by simp only [execOp, Sem.run_bind, h1, Result.andThen_ok, Sem.run_pure]) h2
  case convert s d x =>
    obtain ⟨v, h1, h2⟩ := convC_sound h
    exact .of_value (by simp only [execOp, Sem.run_bind, h1 w (fun _ _ h => h), Result.andThen_ok, Sem.run_pure]) h2
  case call c =>
    obtain ⟨callee, args, argTypes⟩ := c
    cases callee with
    | value f =>
      simp only at h
      unfold callV at h
      split at h
      · rename_i n first captured hf
        split at h
        · rename_i fn hfn
          cases hc : callable fn with
          | false => rw [hc] at h; exact h.elim
          | true =>
            rw [hc] at h
            simp only [cond_true] at h
            unfold OpOk
            have ea : (first ++ args.map (ev ρ) ++ captured) = (first.toList ++ args.toList.map (ev ρ) ++ captured.toList).toArray := by
              apply Array.toList_inj.1; simp
            simp only [execOp, resolve, hf, Deferred.ofValue, pure_bind, invoke, callFunc_run hfn hc, ea]
            refine Calls.mono h fun e w' he => ?_
            obtain ⟨vs, h1, h2⟩ := exVs_elim _ _ he
            exact ⟨_, h1, h2⟩
        · exact h.elim
      · exact h.elim
    | invoke r m => exact plain h
    | builtin b =>
      cases b <;> simp only at h <;> try exact plain h
      case append =>
        split at h
        · rename_i s x t t' hs ht
          split at h
          · rename_i a n c hv
            obtain ⟨s', w', h1, h2⟩ := h
            refine .of_value ?_ h2
            have ea : args.map (ev ρ) = #[(⟨a, n, c⟩ : Sl).v, ev ρ x] := by rw [map_arr, hs]; simp [hv]
            have et : argTypes = #[t, t'] := by apply Array.toList_inj.1; simp [ht]
            simp only [execOp, resolve, pure_bind, invoke, builtin, ea, et, Sem.run_bind, h1, Result.andThen_ok, Sem.run_pure]
          · exact h.elim
        · exact h.elim
      case copy =>
        split at h
        · rename_i s x t t' hs ht
          split at h
          · rename_i a n c hv
            obtain ⟨s', w', h1, h2⟩ := h
            refine .of_value ?_ h2
            have ea : args.map (ev ρ) = #[(⟨a, n, c⟩ : Sl).v, ev ρ x] := by rw [map_arr, hs]; simp [hv]
            have et : argTypes = #[t, t'] := by apply Array.toList_inj.1; simp [ht]
            simp only [execOp, resolve, pure_bind, invoke, builtin, ea, et, Sem.run_bind, h1, Result.andThen_ok, Sem.run_pure]
          · exact h.elim
        · exact h.elim
theorem takeW_sound {S : World → Prop} {o : Oper} {ρ : Env} {K : Value → Prop} (h : takeW P S o ρ K) : ∃ v, (∀ w, S w → (execOp (ev ρ) o).run P w = .ok (.value v) w) ∧ K v := by
  obtain ⟨dst, op, type, pos, after, guard⟩ := o
  have plain : opP P ⟨dst, op, type, pos, after, guard⟩ ρ K → ∃ v, (∀ w, S w → (execOp (ev ρ) ⟨dst, op, type, pos, after, guard⟩).run P w = .ok (.value v) w) ∧ K v := fun h => by
    obtain ⟨v, hv, hk⟩ := opP_sound h
    exact ⟨v, fun w _ => hv w, hk⟩
  cases op <;> simp only [takeW] at h <;> try exact plain h
  case load t x =>
    obtain ⟨v, h1, h2⟩ := loadC_sound h
    exact ⟨v, fun w hS => by simp only [execOp, Sem.run_bind, h1 w (fun _ _ h => h w hS), Result.andThen_ok, Sem.run_pure], h2⟩
  case convert s d x =>
    obtain ⟨v, h1, h2⟩ := convC_sound h
    exact ⟨v, fun w hS => by simp only [execOp, Sem.run_bind, h1 w (fun _ _ h => h w hS), Result.andThen_ok, Sem.run_pure], h2⟩
end sound
end Go.V
