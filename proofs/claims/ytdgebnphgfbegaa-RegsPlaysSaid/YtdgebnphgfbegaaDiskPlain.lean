/- Layer 8, plain: what a device holds, and what its calls do to it. -/
import Derived.Test.YtdgebnphgfbegaaBlk
namespace Go.V.Dk
open Go.V
structure DS where
  now : List (List Int)
  firm : List (List Int)
  waits : List (Int × List Int)
  steps : Int
  fail : Int
  cut : Int
  down : Bool
abbrev Row (r : List Int) : Prop := r.length = 256 ∧ B8 r
structure WF (D : DS) : Prop where
  n : D.firm.length = D.now.length
  lo : 8 ≤ D.now.length
  hi : D.now.length ≤ 4096
  rn : ∀ r ∈ D.now, Row r
  rf : ∀ r ∈ D.firm, Row r
  rw : ∀ p ∈ D.waits, 0 ≤ p.1 ∧ p.1 < D.now.length ∧ Row p.2
  fl : 0 ≤ D.fail ∧ D.fail ≤ 9223372036854775807
  ct : -1 ≤ D.cut ∧ D.cut ≤ 9223372036854775807
def blkC (r : List Int) : List Value := r.map (Value.int .u8)
def wtC (p : Int × List Int) : List Value := .int .i64 p.1 :: p.2.map (Value.int .u8)
def zeroRow : List Int := List.replicate 256 0
def newD (n : Nat) : DS := ⟨List.replicate n zeroRow, List.replicate n zeroRow, [], 0, 0, -1, false⟩
def hasB (D : DS) (i : Int) : Bool := decide (0 ≤ i ∧ i < D.now.length)
def stepD (D : DS) : Int × DS :=
  if D.down = true ∨ D.cut = 0 then (81, { D with down := true })
  else if D.fail > 0 then (if D.fail = 1 then 80 else 0, { D with cut := if D.cut > 0 then D.cut - 1 else D.cut, steps := D.steps + 1, fail := D.fail - 1 })
  else (0, { D with cut := if D.cut > 0 then D.cut - 1 else D.cut, steps := D.steps + 1 })
def writeD (D : DS) (i : Int) (r : List Int) : DS := { D with now := D.now.set i.toNat r, waits := D.waits ++ [(i, r)] }
def syncD (D : DS) : DS := { D with firm := D.now, waits := [] }
/-- Of a write the sectors that the mask names come through. -/
def mixB (m : Int) (i : Nat) (old new : Int) : Int := if m / 2 ^ (i / 64) % 2 = 1 then new else old
def mixR (m : Int) (old new : List Int) : List Int := (List.range 256).map fun i => mixB m i (old.getD i 0) (new.getD i 0)
def crashF : List (List Int) → List (Int × List Int) → List Int → List (List Int)
  | F, p :: ws, m :: ms => crashF (F.set p.1.toNat (mixR m (F.getD p.1.toNat []) p.2)) ws ms
  | F, _, _ => F
def crashD (D : DS) (ms : List Int) : DS := { D with now := crashF D.firm D.waits ms, firm := crashF D.firm D.waits ms, waits := [], fail := 0, cut := -1, down := false }
def splice (r : List Int) (o : Nat) (bs : List Int) : List Int := r.take o ++ (bs ++ r.drop (o + bs.length))
def foreignD (D : DS) (i : Int) (at_ : Nat) (bs : List Int) : DS :=
  { D with now := D.now.set i.toNat (splice (D.now.getD i.toNat []) at_ bs), firm := D.firm.set i.toNat (splice (D.firm.getD i.toNat []) at_ bs) }
theorem zeroRow_row : Row zeroRow := ⟨by unfold zeroRow; rw [List.length_replicate], fun x hx => by unfold zeroRow at hx; rw [List.mem_replicate] at hx; omega⟩
theorem blkC_len {l : List (List Int)} (h : ∀ r ∈ l, Row r) : ∀ r ∈ l, (blkC r).length = 256 := fun r hr => by simp [blkC, (h r hr).1]
theorem wtC_len {l : List (Int × List Int)} {n : Int} (h : ∀ p ∈ l, 0 ≤ p.1 ∧ p.1 < n ∧ Row p.2) : ∀ p ∈ l, (wtC p).length = 257 := fun p hp => by simp [wtC, (h p hp).2.2.1]
theorem getD_row {l : List (List Int)} (h : ∀ r ∈ l, Row r) {i : Nat} (hi : i < l.length) : Row (l.getD i []) := by
  have : l.getD i [] = l[i] := by simp [List.getD, hi]
  rw [this]; exact h _ (List.getElem_mem hi)
theorem set_rows {l : List (List Int)} (h : ∀ r ∈ l, Row r) {i : Nat} {r : List Int} (hr : Row r) : ∀ x ∈ l.set i r, Row x := fun x hx => by
  rcases List.mem_or_eq_of_mem_set hx with h' | rfl
  · exact h x h'
  · exact hr
theorem newD_wf {n : Nat} (h : 8 ≤ n ∧ n ≤ 4096) : WF (newD n) := by
  refine ⟨by simp [newD], by simp [newD]; omega, by simp [newD]; omega, fun r hr => ?_, fun r hr => ?_, fun p hp => by simp [newD] at hp, by simp [newD], by simp [newD]⟩
  · simp [newD] at hr; rw [hr.2]; exact zeroRow_row
  · simp [newD] at hr; rw [hr.2]; exact zeroRow_row
theorem step_wf {D : DS} (h : WF D) : WF (stepD D).2 := by
  have h1 := h.fl
  have h2 := h.ct
  unfold stepD
  split
  · exact ⟨h.n, h.lo, h.hi, h.rn, h.rf, h.rw, h.fl, h.ct⟩
  · split
    · exact ⟨h.n, h.lo, h.hi, h.rn, h.rf, h.rw, by simp only; omega, by simp only; split <;> omega⟩
    · exact ⟨h.n, h.lo, h.hi, h.rn, h.rf, h.rw, h.fl, by simp only; split <;> omega⟩
theorem step_same (D : DS) : (stepD D).2.now = D.now ∧ (stepD D).2.firm = D.firm ∧ (stepD D).2.waits = D.waits := by
  unfold stepD; split
  · exact ⟨rfl, rfl, rfl⟩
  · split <;> exact ⟨rfl, rfl, rfl⟩
theorem write_wf {D : DS} (h : WF D) {i : Int} {r : List Int} (hi : 0 ≤ i ∧ i < D.now.length) (hr : Row r) : WF (writeD D i r) := by
  refine ⟨by simp [writeD, h.n], by simp [writeD, h.lo], by simp [writeD, h.hi], set_rows h.rn hr, h.rf, fun p hp => ?_, h.fl, h.ct⟩
  simp only [writeD, List.length_set]
  rcases List.mem_append.1 hp with hp | hp
  · exact h.rw p hp
  · simp at hp; subst hp; exact ⟨hi.1, hi.2, hr⟩
theorem sync_wf {D : DS} (h : WF D) : WF (syncD D) := ⟨rfl, h.lo, h.hi, h.rn, h.rn, fun p hp => by simp [syncD] at hp, h.fl, h.ct⟩
theorem mixR_row {m : Int} {old new : List Int} (ho : Row old) (hn : Row new) : Row (mixR m old new) := by
  refine ⟨by simp [mixR], fun x hx => ?_⟩
  simp only [mixR, List.mem_map] at hx
  obtain ⟨i, _, rfl⟩ := hx
  unfold mixB; split
  · exact hn.2.get i
  · exact ho.2.get i
theorem crashF_len : ∀ (F : List (List Int)) (ws : List (Int × List Int)) (ms : List Int), (crashF F ws ms).length = F.length
  | F, [], ms => rfl
  | F, p :: ws, [] => rfl
  | F, p :: ws, m :: ms => by rw [crashF, crashF_len]; simp
theorem crashF_rows : ∀ {F : List (List Int)} {ws : List (Int × List Int)} {ms : List Int} {n : Int}, (∀ r ∈ F, Row r) → (∀ p ∈ ws, 0 ≤ p.1 ∧ p.1 < n ∧ Row p.2) → n ≤ F.length → ∀ r ∈ crashF F ws ms, Row r
  | F, [], ms, n, hF, _, _ => hF
  | F, p :: ws, [], n, hF, _, _ => hF
  | F, p :: ws, m :: ms, n, hF, hw, hn => by
    have hp := hw p List.mem_cons_self
    rw [crashF]
    exact crashF_rows (set_rows hF (mixR_row (getD_row hF (by omega)) hp.2.2)) (fun q hq => hw q (List.mem_cons_of_mem _ hq)) (by simpa using hn)
theorem crash_wf {D : DS} (h : WF D) (ms : List Int) : WF (crashD D ms) := by
  have hl := crashF_len D.firm D.waits ms
  have hn := h.n
  have hlo := h.lo
  have hhi := h.hi
  have hr := crashF_rows (ms := ms) h.rf h.rw (by omega)
  exact ⟨rfl, by simp only [crashD]; omega, by simp only [crashD]; omega, hr, hr, fun p hp => by simp [crashD] at hp, by simp [crashD], by simp [crashD]⟩
theorem splice_row {r : List Int} {o : Nat} {bs : List Int} (h : Row r) (hb : B8 bs) (hle : o + bs.length ≤ 256) : Row (splice r o bs) := by
  refine ⟨by simp [splice, h.1]; omega, ?_⟩
  exact (h.2.take o).append (hb.append (h.2.drop _))
theorem foreign_wf {D : DS} (h : WF D) {i : Int} {at_ : Nat} {bs : List Int} (hi : 0 ≤ i ∧ i < D.now.length) (hb : B8 bs) (hle : at_ + bs.length ≤ 256) : WF (foreignD D i at_ bs) := by
  have hn := h.n
  refine ⟨by simp [foreignD, h.n], by simp [foreignD, h.lo], by simp [foreignD, h.hi], set_rows h.rn (splice_row (getD_row h.rn (by omega)) hb hle), set_rows h.rf (splice_row (getD_row h.rf (by omega)) hb hle), fun p hp => ?_, h.fl, h.ct⟩
  simp only [foreignD, List.length_set]
  exact h.rw p hp
end Go.V.Dk
