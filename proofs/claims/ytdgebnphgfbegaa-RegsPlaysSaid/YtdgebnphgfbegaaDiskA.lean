/- Layer 8: a device in memory; New, has, Read, Firm, step, and what it tells. -/
import Derived.Test.YtdgebnphgfbegaaFs
import Derived.Test.YtdgebnphgfbegaaTy
import Derived.Test.YtdgebnphgfbegaaDiskPlain
namespace Go.Proofs.Ytdgebnphgfbegaa
open Go.V Go.V.Dk
theorem blt {w : World} {b : Nat} {o : Obj} (h : w.heap[b]? = some o) : b < w.heap.size := (Array.getElem?_eq_some_iff.1 h).1
structure Dev where
  b : Nat
  sn : Sl
  sf : Sl
  sw : Sl
def Dev.fp (d : Dev) (i : Nat) : Prop := i = d.b ∨ d.sn.blk = some i ∨ d.sf.blk = some i ∨ d.sw.blk = some i
abbrev Dev.p (d : Dev) : Option Addr := some ⟨d.b, 0, none⟩
abbrev diskC (d : Dev) (steps fail cut : Int) (down : Bool) : List Value := [d.sn.v, d.sf.v, d.sw.v, .int .u64 steps, .int .i64 fail, .int .i64 cut, .bool down]
structure DiskR (h : Array Obj) (d : Dev) (D : DS) : Prop where
  blk : h[d.b]? = some (.cells (diskC d D.steps D.fail D.cut D.down).toArray T_disk_Disk (0, 0))
  now : Own h 0 T_disk_block 256 d.sn (D.now.flatMap blkC)
  firm : Own h 0 T_disk_block 256 d.sf (D.firm.flatMap blkC)
  waits : Own h 0 T_disk_write 257 d.sw (D.waits.flatMap wtC)
  nb : d.sn.blk ≠ some d.b ∧ d.sf.blk ≠ some d.b ∧ d.sw.blk ≠ some d.b
  nn : ∀ i, d.sn.blk = some i → d.sf.blk ≠ some i ∧ d.sw.blk ≠ some i
  nf : ∀ i, d.sf.blk = some i → d.sw.blk ≠ some i
  wf : WF D
section
variable {w w' : World} {d : Dev} {D : DS}
theorem DiskR.lt (r : DiskR w.heap d D) {i : Nat} (h : d.fp i) : i < w.heap.size := by
  rcases h with rfl | h | h | h
  · exact blt r.blk
  · exact (r.now.lt h).2
  · exact (r.firm.lt h).2
  · exact (r.waits.lt h).2
theorem DiskR.ext {S : Nat → Prop} (r : DiskR w.heap d D) (x : Ext S w w') (hS : ∀ i, d.fp i → ¬ S i) : DiskR w'.heap d D :=
  ⟨by rw [x.blk _ (blt r.blk) (hS _ (.inl rfl))]; exact r.blk, r.now.ext x fun i hi => hS i (.inr (.inl hi)), r.firm.ext x fun i hi => hS i (.inr (.inr (.inl hi))), r.waits.ext x fun i hi => hS i (.inr (.inr (.inr hi))), r.nb, r.nn, r.nf, r.wf⟩
theorem DiskR.no (r : DiskR w.heap d D) (x : Ext No w w') : DiskR w'.heap d D := r.ext x fun _ _ h => h
theorem DiskR.ln (r : DiskR w.heap d D) : d.sn.len = D.now.length := by have := r.now.len; rw [flat_len' (blkC_len r.wf.rn)] at this; omega
theorem DiskR.lf (r : DiskR w.heap d D) : d.sf.len = D.now.length := by have := r.firm.len; rw [flat_len' (blkC_len r.wf.rf), r.wf.n] at this; omega
theorem DiskR.lw (r : DiskR w.heap d D) : d.sw.len = D.waits.length := by have := r.waits.len; rw [flat_len' (wtC_len r.wf.rw)] at this; omega
/-- The single cells of a device are written. -/
theorem DiskR.scal {st fl ct : Int} {dn : Bool} (r : DiskR w.heap d D) (hw : Wrt w d.b (.cells (diskC d st fl ct dn).toArray T_disk_Disk (0, 0)) w') (wf : WF { D with steps := st, fail := fl, cut := ct, down := dn }) :
    DiskR w'.heap d { D with steps := st, fail := fl, cut := ct, down := dn } :=
  ⟨hw.get r.blk, r.now.ext hw.ext fun i hi h => r.nb.1 (by rw [hi, h]), r.firm.ext hw.ext fun i hi h => r.nb.2.1 (by rw [hi, h]), r.waits.ext hw.ext fun i hi h => r.nb.2.2 (by rw [hi, h]), r.nb, r.nn, r.nf, wf⟩
theorem DiskR.downEq {b : Bool} (r : DiskR w.heap d D) (h : D.down = b) : DiskR w.heap d { D with down := b } := by subst h; exact r
theorem diskHas_spec {i : Int} {K : Bool → World → Prop} (r : DiskR w.heap d D) (k : K (hasB D i) w) : C_disk_Disk_has d.p i w K := by
  apply S_disk_Disk_has
  have hl := r.ln
  refine If.dec (fun h => Nn.mk ⟨d.sn, Cell.lst r.blk rfl, ?_⟩) (fun h => ?_)
  · have : decide (i < ((d.sn.len : Int))) = hasB D i := by unfold hasB; rw [hl]; simp; omega
    rw [this]; exact k
  · have : hasB D i = false := by unfold hasB; simp; omega
    rw [this] at k; exact k
theorem diskBlocks_spec {K : Int → World → Prop} (r : DiskR w.heap d D) (k : K (D.now.length : Int) w) : C_disk_Disk_Blocks d.p w K := by
  apply S_disk_Disk_Blocks
  refine If.no (Nn.mk ⟨d.sn, Cell.lst r.blk rfl, ?_⟩)
  rw [r.ln]; exact k
theorem diskSteps_spec {K : Int → World → Prop} (r : DiskR w.heap d D) (k : K D.steps w) : C_disk_Disk_Steps d.p w K := by
  apply S_disk_Disk_Steps
  exact If.no (Nn.mk ⟨_, Cell.lst r.blk rfl, k⟩)
theorem diskWaiting_spec {K : Int → World → Prop} (r : DiskR w.heap d D) (k : K (D.waits.length : Int) w) : C_disk_Disk_Waiting d.p w K := by
  apply S_disk_Disk_Waiting
  refine If.no (Nn.mk ⟨d.sw, Cell.lst r.blk rfl, ?_⟩)
  rw [r.lw]; exact k
theorem diskDown_spec {K : Bool → World → Prop} (r : DiskR w.heap d D) (k : K D.down w) : C_disk_Disk_Down d.p w K := by
  apply S_disk_Disk_Down
  exact If.not (If.no (Nn.mk ⟨_, Cell.lst r.blk rfl, k⟩))
theorem diskFail_spec {n : Int} {K : World → Prop} (r : DiskR w.heap d D) (hn : n ≤ 9223372036854775807) (k : ∀ w', DiskR w'.heap d { D with fail := max n 0 } → Ext (· = d.b) w w' → K w') : C_disk_Disk_Fail d.p n w K := by
  apply S_disk_Disk_Fail
  have e : iMax n 0 = max n 0 := by unfold iMax; omega
  refine If.not (If.no (Nm.as e (Nn.mk (St1.mk r.blk (by simp) rfl fun w' hw => k w' (r.scal hw ?_) hw.ext))))
  exact ⟨r.wf.n, r.wf.lo, r.wf.hi, r.wf.rn, r.wf.rf, r.wf.rw, by simp only; omega, r.wf.ct⟩
theorem diskCut_spec {n : Int} {K : World → Prop} (r : DiskR w.heap d D) (hn : n ≤ 9223372036854775807) (k : ∀ w', DiskR w'.heap d { D with cut := max n (-1) } → Ext (· = d.b) w w' → K w') : C_disk_Disk_Cut d.p n w K := by
  apply S_disk_Disk_Cut
  have e : iMax n (-1) = max n (-1) := by unfold iMax; omega
  refine If.not (If.no (Nm.as e (Nn.mk (St1.mk r.blk (by simp) rfl fun w' hw => k w' (r.scal hw ?_) hw.ext))))
  exact ⟨r.wf.n, r.wf.lo, r.wf.hi, r.wf.rn, r.wf.rf, r.wf.rw, r.wf.fl, by simp only; omega⟩
theorem diskstep_spec {K : Int → World → Prop} (r : DiskR w.heap d D) (hs : 0 ≤ D.steps ∧ D.steps < 18446744073709551615) (k : ∀ w', DiskR w'.heap d (stepD D).2 → Ext (· = d.b) w w' → w'.heap.size = w.heap.size → K (stepD D).1 w') : C_disk_Disk_step d.p w K := by
  apply S_disk_Disk_step
  have hf := r.wf.fl
  have hc := r.wf.ct
  refine ⟨fun w2 => DiskR w2.heap d { D with steps := D.steps, fail := D.fail, cut := D.cut, down := D.down || decide (D.cut = 0) } ∧ Ext (· = d.b) w w2 ∧ w2.heap.size = w.heap.size, ?_, ?_⟩
  · refine Nn.mk ⟨_, Cell.lst r.blk rfl, If.not (If.cases (fun hd => ?_) (fun hd => Nn.mk ⟨_, Cell.lst r.blk rfl, If.beq (fun h0 => Nn.mk (St1.mk r.blk (by simp) rfl fun w1 hw => ⟨?_, hw.ext, hw.size⟩)) (fun h0 => ?_)⟩))⟩
    · rw [hd, Bool.true_or]; exact ⟨r.downEq hd, Ext.refl _ _, rfl⟩
    · have e : (D.down || decide (D.cut = 0)) = true := by simp [h0]
      rw [e]; exact r.scal hw ⟨r.wf.n, r.wf.lo, r.wf.hi, r.wf.rn, r.wf.rf, r.wf.rw, r.wf.fl, r.wf.ct⟩
    · have e : (D.down || decide (D.cut = 0)) = D.down := by simp [h0]
      rw [e]; exact ⟨r, Ext.refl _ _, rfl⟩
  · rintro _ w2 ⟨r2, x2, z2⟩
    refine Nn.mk ⟨_, Cell.lst r2.blk rfl, If.cases (fun hd => ?_) (fun hd => ?_)⟩
    · have hd' : D.down = true ∨ D.cut = 0 := by simpa using hd
      have e : stepD D = (81, { D with down := true }) := by unfold stepD; rw [if_pos hd']
      rw [e] at k
      refine k w2 ?_ x2 z2
      exact r2.downEq hd
    · have hd' : ¬ (D.down = true ∨ D.cut = 0) := by simpa using hd
      have hdn : D.down = false := by simp at hd; exact hd.1
      have wf4 : ∀ {st fl : Int}, 0 ≤ fl ∧ fl ≤ 9223372036854775807 → WF { D with steps := st, fail := fl, cut := (if D.cut > 0 then D.cut - 1 else D.cut), down := false } := fun h => ⟨r.wf.n, r.wf.lo, r.wf.hi, r.wf.rn, r.wf.rf, r.wf.rw, h, by simp only; split <;> omega⟩
      refine ⟨fun w4 => DiskR w4.heap d { D with steps := D.steps, fail := D.fail, cut := (if D.cut > 0 then D.cut - 1 else D.cut), down := false } ∧ Ext (· = d.b) w w4 ∧ w4.heap.size = w.heap.size, ?_, ?_⟩
      · have r2 := r2.downEq hd
        refine Nn.mk ⟨_, Cell.lst r2.blk rfl, If.dec (fun h => Nn.mk ⟨_, Cell.lst r2.blk rfl, Ar.i64 (by simp only; omega) (Nn.mk (St1.mk r2.blk (by simp) rfl fun w3 hw => ⟨?_, x2.trans hw.ext fun _ _ h => h, by rw [hw.size, z2]⟩))⟩) (fun h => ⟨?_, x2, z2⟩)⟩
        · simp only at h
          have w0 := wf4 (st := D.steps) hf
          rw [if_pos h] at w0 ⊢
          exact r2.scal hw w0
        · simp only at h
          rw [if_neg h]; exact r2
      · rintro _ w4 ⟨r4, x4, z4⟩
        refine Nn.mk ⟨_, Cell.lst r4.blk rfl, Ar.u64 (by simp only; omega) (Nn.mk (St1.mk r4.blk (by simp) rfl fun w5 hw5 => ?_))⟩
        have r5 : DiskR w5.heap d { D with steps := D.steps + 1, fail := D.fail, cut := (if D.cut > 0 then D.cut - 1 else D.cut), down := false } := r4.scal hw5 (wf4 hf)
        have x5 := x4.trans hw5.ext (S := (· = d.b)) fun _ _ h => h
        have z5 : w5.heap.size = w.heap.size := by rw [hw5.size, z4]
        refine Nn.mk ⟨_, Cell.lst r5.blk rfl, If.dec (fun h => Nn.mk ⟨_, Cell.lst r5.blk rfl, Ar.i64 (by simp only; omega) (Nn.mk (St1.mk r5.blk (by simp) rfl fun w6 hw6 => ?_))⟩) (fun h => ?_)⟩
        · simp only at h
          have r6 : DiskR w6.heap d { D with steps := D.steps + 1, fail := D.fail - 1, cut := (if D.cut > 0 then D.cut - 1 else D.cut), down := false } := r5.scal hw6 (wf4 (by omega))
          have x6 := x5.trans hw6.ext (S := (· = d.b)) fun _ _ h => h
          have e : stepD D = (if D.fail = 1 then 80 else 0, { D with steps := D.steps + 1, fail := D.fail - 1, cut := (if D.cut > 0 then D.cut - 1 else D.cut), down := false }) := by
            unfold stepD; rw [if_neg hd', if_pos h, hdn]
          rw [e] at k
          refine Nn.mk ⟨_, Cell.lst r6.blk rfl, If.beq (fun h1 => ?_) (fun h1 => ?_)⟩
          · simp only at h1
            rw [if_pos (by omega)] at k
            exact k w6 r6 x6 (by rw [hw6.size, z5])
          · simp only at h1
            rw [if_neg (by omega)] at k
            exact k w6 r6 x6 (by rw [hw6.size, z5])
        · simp only at h
          have e : stepD D = (0, { D with steps := D.steps + 1, fail := D.fail, cut := (if D.cut > 0 then D.cut - 1 else D.cut), down := false }) := by
            unfold stepD; rw [if_neg hd', if_neg h, hdn]
          rw [e] at k
          exact k w5 r5 x5 z5
end
end Go.Proofs.Ytdgebnphgfbegaa
