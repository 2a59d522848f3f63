/- Layer 8: the law DiskFails. -/
import Derived.Test.YtdgebnphgfbegaaDiskF
import Derived.Test.YtdgebnphgfbegaaRegsA
namespace Go.V
theorem bitI_and7 (x : Int) : 0 ≤ bitI .and .i64 x 7 ∧ bitI .and .i64 x 7 ≤ 7 := by
  have e : bitI .and .i64 x 7 = IntKind.i64.wrap ((BitVec.ofInt 64 x &&& BitVec.ofInt 64 7).toNat : Int) := rfl
  have h : (BitVec.ofInt 64 x &&& BitVec.ofInt 64 7).toNat ≤ 7 := by
    rw [BitVec.toNat_and]
    have : (BitVec.ofInt 64 7).toNat = 7 := by decide
    rw [this]; exact Nat.and_le_right
  rw [e, IntWalk.i64_in _ (by omega)]
  omega
end Go.V
namespace Go.V.Dk
/-- How a device stands behind j steps. -/
structure After (fail cut : Int) (j : Nat) (D : DS) : Prop where
  n : D.now.length = 8
  steps : D.steps = if 0 ≤ cut then min (j : Int) cut else j
  down : D.down = decide (0 ≤ cut ∧ cut < j)
  cut : D.cut = if 0 ≤ cut then max (cut - j) 0 else -1
  fail : D.fail = max (max fail 0 - D.steps) 0
  waits : D.waits.length ≤ j
/-- What the step behind j steps answers. -/
def wants (fail cut : Int) (j : Nat) : Int := if 0 ≤ cut ∧ cut ≤ j then 81 else if (j : Int) + 1 = fail then 80 else 0
theorem After.next {fail cut : Int} {j : Nat} {D : DS} (h : After fail cut j D) : (stepD D).1 = wants fail cut j ∧ After fail cut (j + 1) (stepD D).2 := by
  have h1 := h.steps
  have h2 := h.cut
  have h3 := h.fail
  have h4 := h.down
  have h5 := h.waits
  unfold stepD wants
  by_cases hc : 0 ≤ cut ∧ cut ≤ j
  · have hd : D.down = true ∨ D.cut = 0 := by right; rw [h2, if_pos hc.1]; omega
    rw [if_pos hd, if_pos hc]
    refine ⟨rfl, h.n, ?_, ?_, ?_, h.fail, by simp only; omega⟩
    · simp only [h1, if_pos hc.1]; omega
    · simp only; symm; simp; omega
    · simp only [h2, if_pos hc.1]; omega
  · have hd : ¬ (D.down = true ∨ D.cut = 0) := by
      rintro (hd | hd)
      · rw [h4] at hd; simp at hd; omega
      · rw [h2] at hd; split at hd <;> omega
    rw [if_neg hd, if_neg hc]
    have hst : D.steps = j := by rw [h1]; split <;> omega
    by_cases hf : D.fail > 0
    · rw [if_pos hf]
      refine ⟨?_, h.n, ?_, ?_, ?_, ?_, by simp only; omega⟩
      · simp only
        by_cases e1 : D.fail = 1
        · rw [if_pos e1, if_pos (by omega)]
        · rw [if_neg e1, if_neg (by omega)]
      · simp only [hst]; split <;> omega
      · simp only [h4]; rw [decide_eq_decide]; omega
      · simp only [h2]; by_cases h0 : 0 ≤ cut
        · simp only [if_pos h0]; split <;> omega
        · simp only [if_neg h0]; split <;> omega
      · simp only; omega
    · rw [if_neg hf]
      refine ⟨?_, h.n, ?_, ?_, ?_, ?_, by simp only; omega⟩
      · simp only; rw [if_neg (by omega)]
      · simp only [hst]; split <;> omega
      · simp only [h4]; rw [decide_eq_decide]; omega
      · simp only [h2]; by_cases h0 : 0 ≤ cut
        · simp only [if_pos h0]; split <;> omega
        · simp only [if_neg h0]; split <;> omega
      · simp only; omega
end Go.V.Dk
namespace Go.Proofs.Ytdgebnphgfbegaa
open Go.V Go.V.Dk
theorem diskRead_all {w : World} {d : Dev} {D : DS} {i : Int} {K : Sl → Int → World → Prop} (r : DiskR w.heap d D) (hh : Dk.hasB D i = true)
    (k : ∀ s c w', (D.down = false → c = 0 ∧ RdB w'.heap s (D.now.getD i.toNat []) ∧ ∀ j, s.blk = some j → w.heap.size ≤ j) → Ext No w w' → K s c w') : C_disk_Disk_Read d.p i w K :=
  diskRead_spec r (fun h => by rw [hh] at h; cases h) (fun _ hd => k _ _ w (fun h => by rw [hd] at h; cases h) (Ext.refl _ _)) fun _ _ s w' o x => k s 0 w' (fun _ => ⟨rfl, o.rd, fun j hj => (o.lt hj).1⟩) x
/-- How the law stands behind j calls. -/
structure FSt (w0 : World) (pb : Nat) (fail cut : Int) (j : Nat) (w : World) (d : Dev) (D : DS) : Prop where
  b : d.b = pb
  fp : ∀ i, d.fp i → w0.heap.size ≤ i
  r : DiskR w.heap d D
  a : After fail cut j D
  x : Ext No w0 w
theorem After.write {fail cut : Int} {j : Nat} {D D' : DS} (h : After fail cut j D) (h' : After fail cut (j + 1) (stepD D).2) {i : Int} {bs : List Int} (e : D' = writeD (stepD D).2 i bs) : After fail cut (j + 1) D' := by
  subst e
  have := h.waits
  have hs := (step_same D).2.2
  refine ⟨by simp only [writeD, List.length_set]; exact h'.n, h'.steps, h'.down, h'.cut, h'.fail, ?_⟩
  simp only [writeD, List.length_append, List.length_singleton]; rw [hs]; omega
set_option maxHeartbeats 1000000 in
theorem diskFails_spec {l : Sl} {fail cut : Int} {w : World} {O : List OpV} (hO : Rd w.heap l 5 (O.flatMap OpV.c)) (hlen : O.length = l.len) (hf : I64 fail) (hc : I64 cut) : C_law08_DiskFails l fail cut w fun b w' => b = true ∧ Ext No w w' := by
  apply S_law08_DiskFails
  have kn : ∀ {w1 : World}, Ext No w w1 → C_law08_known w1 fun r w' => r = true ∧ Ext No w w' := fun x => known8_spec fun w' x' => ⟨rfl, x.no x'⟩
  refine If.dec (fun _ => kn (Ext.refl _ _)) (fun h200 => ?_)
  refine diskNew_spec (fun h => absurd (by omega) h) fun _ d w2 r2 fd x2 => ?_
  rw [show (8 : Int).toNat = 8 from rfl] at r2
  refine ⟨fun w' => w' = w2, If.no (If.bne (fun h => absurd rfl h) fun _ => rfl), ?_⟩
  rintro _ w2 rfl
  refine diskFail_spec r2 hf.2 fun w4 r4 x4 => diskCut_spec r4 hc.2 fun w5 r5 x5 => ?_
  have own : ∀ {a b : World}, Ext No w a → Ext (· = d.b) a b → Ext No w b := fun x y => x.trans y fun i hi h => by have := fd i (.inl h); omega
  have a5 : After fail cut 0 { newD 8 with fail := max fail 0, cut := max cut (-1) } := by
    refine ⟨by simp [newD], by simp [newD]; omega, by simp [newD], ?_, ?_, by simp [newD]⟩
    · simp only; split <;> omega
    · simp [newD]
  refine ⟨fun m t w6 => ∃ (j : Nat) (d' : Dev) (D : DS), t = j ∧ m = O.length - j ∧ j ≤ O.length ∧ FSt w d.b fail cut j w6 d' D,
    ⟨_, 0, d, _, rfl, rfl, Nat.zero_le _, rfl, fd, r5, a5, own (own x2 x4) x5⟩, ?_⟩
  rintro _ m t w6 ⟨j, d6, D, rfl, rfl, hj, f6⟩
  have hp : d.p = d6.p := by simp [Dev.p, f6.b]
  rw [hp]
  have hst := f6.a.steps
  have hwt := f6.a.waits
  refine If.dec (fun hlt => ?_) (fun hge => ?_)
  · have hj' : j < O.length := by omega
    refine Ix.elem (hO.no f6.x) (fun o _ => rfl) (by decide) (by omega) hlt fun b o hi hb hcell => ?_
    generalize O[((j : Int)).toNat] = op at hcell
    refine ⟨op.kind, hcell 0 _ rfl, op.i, hcell 1 _ rfl, op.at_, hcell 2 _ rfl, op.b, hcell 3 _ rfl, op.masks, hcell 4 _ rfl, fun bl w7 n7 => ⟨rfl, _, _, _, n7.get, rfl, by simp, .inr (.inr (Nat.le_refl _)), fun v hv => by simp at hv; rcases hv with rfl | rfl | rfl | rfl | rfl <;> rfl, fun w8 hw8 => ?_⟩⟩
    have hbl : w8.heap[bl]? = some (.cells op.c.toArray 32 (0, 0)) := hw8.get n7.get
    have abl := n7.at_
    have x68 : Ext No w6 w8 := n7.ext.trans hw8.ext fun i hi h => by
      have h' : i = bl := h
      omega
    have r8 := f6.r.no x68
    have z8 := x68.size
    obtain ⟨z0, z7⟩ := bitI_and7 op.i
    have hh : Dk.hasB D (bitI .and .i64 op.i 7) = true := by unfold Dk.hasB; rw [f6.a.n]; simp; omega
    refine ⟨op.i, Cell.lst hbl rfl, Nm.mk (diskRead_all r8 hh fun s9 c9 w9 h9 x9 => ?_)⟩
    generalize hz : bitI .and .i64 op.i 7 = z at *
    have r9 := r8.no x9
    have z9 := x9.size
    have hbl9 : w9.heap[bl]? = some (.cells op.c.toArray 32 (0, 0)) := by rw [x9.blk _ (blt hbl) id]; exact hbl
    have x09 : Ext No w w9 := (f6.x.no x68).no x9
    have nfp : ∀ i, d6.fp i → i < w6.heap.size := fun i hi => f6.r.lt hi
    have nbl : ¬ d6.fp bl := fun h => by have := nfp _ h; omega
    refine diskWaiting_spec r9 ?_
    obtain ⟨e1, a1⟩ := f6.a.next
    have hsame : (stepD D).2.now = D.now ∧ (stepD D).2.waits = D.waits := ⟨(step_same D).1, (step_same D).2.2⟩
    have stp : ∀ {w14 : World} {d' : Dev} {D' : DS}, DiskR w14.heap d' D' → d'.b = d6.b → (∀ i, d'.fp i → d6.fp i ∨ w9.heap.size ≤ i) → Ext d6.fp w9 w14 → After fail cut (j + 1) D' → (wants fail cut j ≠ 0 → D'.now = D.now ∧ D'.waits = D.waits) →
        ∃ d' D', FSt w d.b fail cut (j + 1) w14 d' D' ∧ w14.heap[bl]? = some (.cells op.c.toArray 32 (0, 0)) ∧ (wants fail cut j ≠ 0 → D'.now = D.now ∧ D'.waits = D.waits) ∧ (D.down = false → RdB w14.heap s9 (D.now.getD z.toNat [])) := by
      intro w14 d' D' r14 hb14 fp14 x14 a14 s14
      refine ⟨d', D', ⟨by rw [hb14, f6.b], fun i hi => ?_, r14, a14, x09.trans x14 fun i hi h => ?_⟩, ?_, s14, fun hd => ?_⟩
      · rcases fp14 i hi with h | h
        · exact f6.fp i h
        · have := x09.size; omega
      · have := f6.fp i h; omega
      · rw [x14.blk _ (blt hbl9) nbl]; exact hbl9
      · obtain ⟨_, h2, h3⟩ := h9 hd
        refine Rd.ext h2 x14 fun a b ha hb h => ?_
        have := h3 b (by simp [Sl.blk, ha, hb])
        have := nfp b h
        omega
    refine ⟨fun got w14 => got = wants fail cut j ∧ ∃ d' D', FSt w d.b fail cut (j + 1) w14 d' D' ∧ w14.heap[bl]? = some (.cells op.c.toArray 32 (0, 0)) ∧ (wants fail cut j ≠ 0 → D'.now = D.now ∧ D'.waits = D.waits) ∧ (D.down = false → RdB w14.heap s9 (D.now.getD z.toNat [])), ?_, ?_⟩
    · have hs9 : 0 ≤ D.steps ∧ D.steps < 18446744073709551615 := by rw [hst]; split <;> omega
      refine ⟨op.kind, Cell.lst hbl9 rfl, Nm.mk (If.beq (fun _ => ?_) (fun _ => ?_))⟩
      · refine ⟨Ext d6.fp w9, (Ext.refl _ _).drew, op.i, Held.but (Cell.lst hbl9 rfl) nbl, Nm.as hz ⟨op.at_, Held.but (Cell.lst hbl9 rfl) nbl, Ar.u8m (full_spec fun s11 w11 o11 x11 => ⟨?_, ?_⟩)⟩⟩
        · exact x11.drew_left.of_no
        · have hbl8 : (List.replicate 256 (op.at_ % 256)).length = 256 := List.length_replicate
          have hb8 : B8 (List.replicate 256 (op.at_ % 256)) := fun x hx => by rw [List.mem_replicate] at hx; omega
          generalize List.replicate 256 (op.at_ % 256) = bs at *
          have x11' := x11.drew_left
          have z11 := x11'.size
          refine diskWrite_spec (r9.no x11') o11.rd hb8 (fun i hi h => ?_) hs9 (by omega) fun d' w' r' g' x' => ?_
          · have h1 := (o11.lt hi).1
            have h2 := nfp i h
            have e : (drewW w9).heap.size = w9.heap.size := rfl
            omega
          · have hx : Ext d6.fp w9 w' := (x11'.of_no (S := d6.fp)).trans x' fun _ _ h => h
            have ew : writeR D z bs = (if (stepD D).1 = 0 then (0, writeD (stepD D).2 z bs) else stepD D) := by unfold writeR; rw [if_pos ⟨hh, hbl8⟩]
            refine ⟨hx, ?_, ?_⟩
            · rw [ew]; split
              · rename_i h; rw [← e1, h]
              · exact e1
            · rw [ew] at r'
              refine stp r' g'.b (fun i hi => ?_) hx ?_ fun hne => ?_
              · rcases g'.fp i hi with h | h
                · exact .inl h
                · exact .inr (by omega)
              · split
                · exact After.write f6.a a1 rfl
                · exact a1
              · rw [if_neg (by rw [e1]; exact hne)]; exact hsame
      · refine diskStep_spec r9 hs9 fun w' r' x' _ => ⟨e1, stp r' rfl (fun i hi => .inl hi) (x'.mono fun _ _ h => .inl h) a1 fun _ => hsame⟩
    · rintro _ _ w14 ⟨rfl, d14, D14, f14, hbl14, s14, rd14⟩
      have hp14 : d6.p = d14.p := by simp [Dev.p, f6.b, f14.b]
      rw [hp14]
      refine ⟨fun want w15 => w15 = w14 ∧ want = if (j : Int) + 1 = fail then 80 else 0, Ar.i64 (by omega) (If.beq (fun h => ⟨rfl, (if_pos h).symm⟩) (fun h => ⟨rfl, (if_neg h).symm⟩)), ?_⟩
      rintro _ _ w14 ⟨rfl, rfl⟩
      refine ⟨fun want w16 => w16 = w14 ∧ want = wants fail cut j, ?_, ?_⟩
      · unfold wants
        refine If.dec (fun h0 => If.dec (fun h1 => ⟨rfl, (if_pos ⟨h0, h1⟩).symm⟩) (fun h1 => ⟨rfl, (if_neg (by omega)).symm⟩)) (fun h0 => ⟨rfl, (if_neg (by omega)).symm⟩)
      rintro _ _ w14 ⟨rfl, rfl⟩
      have hdn := f14.a.down
      refine ⟨fun w18 => w18 = w14, If.bne (fun h => absurd rfl h) fun _ => diskDown_spec f14.r ?_, ?_⟩
      · have e : (D14.down == (wants fail cut j == 81)) = true := by
          rw [hdn]; unfold wants
          by_cases hc : 0 ≤ cut ∧ cut ≤ j
          · rw [if_pos hc]; simp; omega
          · rw [if_neg hc]
            have h1 : decide (0 ≤ cut ∧ cut < ((j + 1 : Nat) : Int)) = false := by simp; omega
            rw [h1]; split <;> rfl
        rw [e]
        exact If.not (If.yes rfl)
      rintro _ w14 rfl
      have hfin : ∀ {w20 : World}, Ext No w14 w20 → ∃ m1, m1 < O.length - j ∧ ∃ (j' : Nat) (d' : Dev) (D : DS), ((j : Int) + 1) = j' ∧ m1 = O.length - j' ∧ j' ≤ O.length ∧ FSt w d.b fail cut j' w20 d' D := fun x =>
        ⟨_, by omega, j + 1, d14, D14, by omega, rfl, by omega, f14.b, f14.fp, f14.r.no x, f14.a, f14.x.no x⟩
      refine If.beq (fun h80 => ⟨op.i, Cell.lst hbl14 rfl, Nm.as hz ?_⟩) (fun _ => Ar.i64 (by omega) (hfin (Ext.refl _ _)))
      have hnc : ¬ (0 ≤ cut ∧ cut ≤ j) := by intro hc; unfold wants at h80; rw [if_pos hc] at h80; omega
      obtain ⟨sn, sw⟩ := s14 (by omega)
      have hd14 : D14.down = false := by rw [hdn]; simp; omega
      have hd : D.down = false := by rw [f6.a.down]; simp; omega
      have hh14 : Dk.hasB D14 z = true := by unfold Dk.hasB at hh ⊢; rw [sn]; exact hh
      refine diskRead_all f14.r hh14 fun s19 c19 w19 h19 x19 => ?_
      obtain ⟨rfl, rd19, _⟩ := h19 hd14
      rw [sn] at rd19
      refine If.bne (fun h => absurd rfl h) fun _ => StrC.mk rd19 (fun _ _ _ h => Cell.mk h) (StrC.mk ((rd14 hd).no x19) (fun _ _ _ h => Cell.mk h) ?_)
      refine If.not ?_
      rw [beq_self_eq_true]
      refine If.yes (diskWaiting_spec (f14.r.no x19) ?_)
      rw [sw]
      exact If.bne (fun h => absurd rfl h) fun _ => Ar.i64 (by omega) (hfin x19)
  · have hjl : j = O.length := by omega
    refine ⟨fun done w' => w' = w6 ∧ done = if 0 ≤ cut then min (j : Int) cut else j, ?_, ?_⟩
    · refine If.dec (fun h => Nm.mk ⟨rfl, ?_⟩) (fun h => ⟨rfl, ?_⟩)
      · rw [if_pos h]; unfold iMin; omega
      · rw [if_neg h]; omega
    · rintro _ _ w6 ⟨rfl, rfl⟩
      refine diskSteps_spec f6.r (Ar.u64 (by split <;> omega) ?_)
      rw [hst]
      exact If.beq (fun _ => kn f6.x) (fun h => absurd rfl h)
end Go.Proofs.Ytdgebnphgfbegaa
