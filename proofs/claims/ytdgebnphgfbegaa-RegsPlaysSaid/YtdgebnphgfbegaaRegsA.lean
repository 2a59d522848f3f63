/- Layer 9: registers in memory; New, Reserve, Advance, Draw, and what they tell. -/
import Derived.Test.YtdgebnphgfbegaaDiskE
namespace Go.Proofs.Ytdgebnphgfbegaa
open Go.V Go.V.Dk
structure RS where
  dev : Option Addr
  limit : Int
  reserved : Int
  committed : Int
  draws : List (List Int)
structure Rgs where
  rb : Nat
  sd : Sl
  ins : List Sl
def Rgs.fp (g : Rgs) (i : Nat) : Prop := i = g.rb ∨ g.sd.blk = some i ∨ ∃ s ∈ g.ins, s.blk = some i
abbrev Rgs.p (g : Rgs) : Option Addr := some ⟨g.rb, 0, none⟩
abbrev slC (s : Sl) : List Value := [s.v]
abbrev regsC (R : RS) (sd : Sl) : List Value := [.pointer R.dev, .int .u64 R.limit, .int .u64 R.reserved, .int .u64 R.committed, sd.v]
structure RegsR (h : Array Obj) (g : Rgs) (R : RS) : Prop where
  blk : h[g.rb]? = some (.cells (regsC R g.sd).toArray T_regs_Regs (0, 0))
  outer : Rd h g.sd 1 (g.ins.flatMap slC)
  old : ∀ i, g.sd.blk = some i → i < h.size
  n : g.ins.length = R.draws.length
  inner : ∀ j (h1 : j < g.ins.length) (h2 : j < R.draws.length), Own h 0 T_uint8 1 g.ins[j] (R.draws[j].map (Value.int .u8))
  b8 : ∀ l ∈ R.draws, B8 l
  n1 : g.sd.blk ≠ some g.rb
  n2 : ∀ s ∈ g.ins, ∀ i, s.blk = some i → i ≠ g.rb ∧ g.sd.blk ≠ some i
  n3 : g.ins.Pairwise fun s t => ∀ i, s.blk = some i → t.blk ≠ some i
theorem slC_len {l : List Sl} : ∀ s ∈ l, (slC s).length = 1 := fun _ _ => rfl
section
variable {w w' : World} {g : Rgs} {R : RS}
theorem RegsR.lt (r : RegsR w.heap g R) {i : Nat} (h : g.fp i) : i < w.heap.size := by
  rcases h with rfl | h | ⟨s, hs, h⟩
  · exact blt r.blk
  · exact r.old i h
  · obtain ⟨j, hj, rfl⟩ := List.getElem_of_mem hs
    exact ((r.inner j hj (by have := r.n; omega)).lt h).2
theorem RegsR.len (r : RegsR w.heap g R) : g.sd.len = R.draws.length := by have := r.outer.len; rw [flat_len' slC_len, r.n] at this; omega
theorem RegsR.ext {S : Nat → Prop} (r : RegsR w.heap g R) (x : Ext S w w') (hS : ∀ i, g.fp i → ¬ S i) : RegsR w'.heap g R :=
  ⟨by rw [x.blk _ (blt r.blk) (hS _ (.inl rfl))]; exact r.blk, r.outer.ext x fun a b ha hb => hS b (.inr (.inl (by simp [Sl.blk, ha, hb]))), fun i hi => Nat.lt_of_lt_of_le (r.old i hi) x.size, r.n,
    fun j h1 h2 => (r.inner j h1 h2).ext x fun i hi => hS i (.inr (.inr ⟨_, List.getElem_mem h1, hi⟩)), r.b8, r.n1, r.n2, r.n3⟩
theorem RegsR.no (r : RegsR w.heap g R) (x : Ext No w w') : RegsR w'.heap g R := r.ext x fun _ _ h => h
theorem RegsR.scal {res com : Int} (r : RegsR w.heap g R) (hw : Wrt w g.rb (.cells (regsC { R with reserved := res, committed := com } g.sd).toArray T_regs_Regs (0, 0)) w') : RegsR w'.heap g { R with reserved := res, committed := com } :=
  ⟨hw.get r.blk, r.outer.ext hw.ext fun a b ha hb h => r.n1 (by simp [Sl.blk, ha, hb]; exact h), fun i hi => by rw [hw.size]; exact r.old i hi, r.n,
    fun j h1 h2 => (r.inner j h1 h2).ext hw.ext fun i hi h => (r.n2 _ (List.getElem_mem h1) i hi).1 h, r.b8, r.n1, r.n2, r.n3⟩
theorem regsReserved_spec {K : Int → World → Prop} (r : RegsR w.heap g R) (k : K R.reserved w) : C_regs_Regs_Reserved g.p w K := by
  apply S_regs_Regs_Reserved
  exact If.no (Nn.mk ⟨_, Cell.lst r.blk rfl, k⟩)
theorem regsCommitted_spec {K : Int → World → Prop} (r : RegsR w.heap g R) (k : K R.committed w) : C_regs_Regs_Committed g.p w K := by
  apply S_regs_Regs_Committed
  exact If.no (Nn.mk ⟨_, Cell.lst r.blk rfl, k⟩)
theorem regsLeft_spec {K : Int → World → Prop} (r : RegsR w.heap g R) (k : K (R.draws.length : Int) w) : C_regs_Regs_Left g.p w K := by
  apply S_regs_Regs_Left
  refine If.no (Nn.mk ⟨g.sd, Cell.lst r.blk rfl, ?_⟩)
  rw [r.len]; exact k
theorem diskStep_spec {d : Dev} {D : DS} {K : Int → World → Prop} (r : DiskR w.heap d D) (hs : 0 ≤ D.steps ∧ D.steps < 18446744073709551615) (k : ∀ w', DiskR w'.heap d (stepD D).2 → Ext (· = d.b) w w' → w'.heap.size = w.heap.size → K (stepD D).1 w') : C_disk_Disk_Step d.p w K := by
  apply S_disk_Disk_Step
  exact If.no (diskstep_spec r hs k)
/-- Reserve: the answer, the registers, the device. -/
def reserveR (R : RS) (D : DS) : Int × Int × RS × DS :=
  if R.reserved ≥ R.limit then (0, 90, R, D) else if (stepD D).1 = 0 then (R.reserved + 1, 0, { R with reserved := R.reserved + 1 }, (stepD D).2) else (0, (stepD D).1, R, (stepD D).2)
def advanceR (R : RS) (D : DS) (n : Int) : Int × RS × DS :=
  if n ≤ R.committed ∨ n > R.reserved then (2, R, D) else if (stepD D).1 = 0 then (0, { R with committed := n }, (stepD D).2) else ((stepD D).1, R, (stepD D).2)
theorem regsReserve_spec {d : Dev} {D : DS} {K : Int → Int → World → Prop} (r : RegsR w.heap g R) (q : DiskR w.heap d D) (hd : R.dev = d.p) (dis : ∀ i, g.fp i → ¬ d.fp i) (hs : 0 ≤ D.steps ∧ D.steps < 18446744073709551615) (hr : 0 ≤ R.reserved ∧ R.limit ≤ 18446744073709551615)
    (k : ∀ w', RegsR w'.heap g (reserveR R D).2.2.1 → DiskR w'.heap d (reserveR R D).2.2.2 → Ext (fun i => i = g.rb ∨ i = d.b) w w' → K (reserveR R D).1 (reserveR R D).2.1 w') : C_regs_Regs_Reserve g.p w K := by
  apply S_regs_Regs_Reserve
  refine If.no ⟨Ext No w, (Ext.refl _ _).drew, Nn.mk ⟨_, Held.cell (Cell.lst r.blk rfl), Nn.mk ⟨_, Held.cell (Cell.lst r.blk rfl), If.dec (fun h => ?_) (fun h => ?_)⟩⟩⟩
  · have e : reserveR R D = (0, 90, R, D) := by unfold reserveR; rw [if_pos h]
    rw [e] at k
    exact k (drewW w) r q (Ext.refl _ _).drew
  · have rd : RegsR (drewW w).heap g R := r
    have qd : DiskR (drewW w).heap d D := q
    refine Nn.mk ⟨R.dev, Cell.lst rd.blk rfl, ?_⟩
    rw [hd]
    refine diskStep_spec qd hs fun w1 q1 x1 z1 => ?_
    have r1 := rd.ext x1 fun i hi h => dis i hi (.inl h)
    have x1' : Ext (fun i => i = g.rb ∨ i = d.b) w w1 := (x1.mono fun i _ h => .inr h).drew_left
    refine If.bne (fun he => ?_) (fun he => ?_)
    · have e : reserveR R D = (0, (stepD D).1, R, (stepD D).2) := by unfold reserveR; rw [if_neg h, if_neg he]
      rw [e] at k; exact k w1 r1 q1 x1'
    · have e : reserveR R D = (R.reserved + 1, 0, { R with reserved := R.reserved + 1 }, (stepD D).2) := by unfold reserveR; rw [if_neg h, if_pos he]
      rw [e] at k
      refine Nn.mk ⟨_, Cell.lst r1.blk rfl, Ar.u64 (by omega) (Nn.mk (St1.mk r1.blk (by simp) rfl fun w2 hw2 => ?_))⟩
      have r2 : RegsR w2.heap g { R with reserved := R.reserved + 1, committed := R.committed } := r1.scal hw2
      have q2 := q1.ext hw2.ext fun i hi h => dis i (.inl h) hi
      exact Nn.mk ⟨_, Cell.lst r2.blk rfl, k w2 r2 q2 (x1'.trans hw2.ext fun i _ h => .inl h)⟩
theorem regsAdvance_spec {d : Dev} {D : DS} {n : Int} {K : Int → World → Prop} (r : RegsR w.heap g R) (q : DiskR w.heap d D) (hd : R.dev = d.p) (dis : ∀ i, g.fp i → ¬ d.fp i) (hs : 0 ≤ D.steps ∧ D.steps < 18446744073709551615)
    (k : ∀ w', RegsR w'.heap g (advanceR R D n).2.1 → DiskR w'.heap d (advanceR R D n).2.2 → Ext (fun i => i = g.rb ∨ i = d.b) w w' → K (advanceR R D n).1 w') : C_regs_Regs_Advance g.p n w K := by
  apply S_regs_Regs_Advance
  refine If.no ⟨fun w' => w' = w ∧ ¬ (n ≤ R.committed ∨ n > R.reserved), ?_, ?_⟩
  · have bad : (n ≤ R.committed ∨ n > R.reserved) → K 2 w := fun h => by
      have e : advanceR R D n = (2, R, D) := by unfold advanceR; rw [if_pos h]
      rw [e] at k; exact k w r q (Ext.refl _ _)
    exact Nn.mk ⟨_, Cell.lst r.blk rfl, If.dec (fun h => bad (.inl h)) (fun h => Nn.mk ⟨_, Cell.lst r.blk rfl, If.dec (fun h1 => bad (.inr h1)) (fun h1 => ⟨rfl, by omega⟩)⟩)⟩
  · rintro _ w0 ⟨rfl, h⟩
    refine Nn.mk ⟨R.dev, Cell.lst r.blk rfl, ?_⟩
    rw [hd]
    refine diskStep_spec q hs fun w1 q1 x1 z1 => ?_
    have r1 := r.ext x1 fun i hi h => dis i hi (.inl h)
    have x1' : Ext (fun i => i = g.rb ∨ i = d.b) w0 w1 := x1.mono fun i _ h => .inr h
    refine If.bne (fun he => ?_) (fun he => ?_)
    · have e : advanceR R D n = ((stepD D).1, R, (stepD D).2) := by unfold advanceR; rw [if_neg h, if_neg he]
      rw [e] at k; exact k w1 r1 q1 x1'
    · have e : advanceR R D n = (0, { R with committed := n }, (stepD D).2) := by unfold advanceR; rw [if_neg h, if_pos he]
      rw [e] at k
      refine Nn.mk (St1.mk r1.blk (by simp) rfl fun w2 hw2 => ?_)
      exact k w2 (r1.scal (res := R.reserved) hw2) (q1.ext hw2.ext fun i hi h => dis i (.inl h) hi) (x1'.trans hw2.ext fun i _ h => .inl h)
end
end Go.Proofs.Ytdgebnphgfbegaa
