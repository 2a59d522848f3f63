/- Layer 8: Write, Sync, Foreign. -/
import Derived.Test.YtdgebnphgfbegaaDiskB
namespace Go.V.Dk
def writeR (D : DS) (i : Int) (bs : List Int) : Int × DS := if hasB D i = true ∧ bs.length = 256 then (if (stepD D).1 = 0 then (0, writeD (stepD D).2 i bs) else stepD D) else (2, D)
def syncR (D : DS) : Int × DS := if (stepD D).1 = 0 then (0, syncD (stepD D).2) else stepD D
end Go.V.Dk
namespace Go.Proofs.Ytdgebnphgfbegaa
open Go.V Go.V.Dk
structure Grow (w : World) (d d' : Dev) : Prop where
  b : d'.b = d.b
  fp : ∀ i, d'.fp i → d.fp i ∨ w.heap.size ≤ i
theorem Grow.refl (w : World) (d : Dev) : Grow w d d := ⟨rfl, fun _ h => .inl h⟩
theorem StN.ownL {w : World} {base : Nat} {e : TypeId} {sz : Nat} {s : Sl} {cs : List Value} {i : Int} {vs : List Value} {K : World → Prop} (o : Own w.heap base e sz s cs) (h0 : 0 ≤ i) (h1 : i < (s.len : Int)) (hv : ∀ v ∈ vs, oneC v = true) (hl : vs.length = sz) (hsz : 0 < sz)
    (k : ∀ w', Own w'.heap base e sz s (setL cs (i.toNat * sz) vs) → Ext (fun i => s.blk = some i) w w' → w'.heap.size = w.heap.size → K w') : Ix s.a s.len i sz fun a => List.length (α := Value) vs = sz ∧ StN w a vs K := by
  obtain ⟨a, h1, h2, h3, h4⟩ := StN.own (K := K) o h0 h1 hv hl hsz k
  exact ⟨a, h1, h2, h3, hl, h4⟩
section
variable {w : World} {d : Dev} {D : DS}
theorem DiskR.setNow {w' : World} {N : List (List Int)} (r : DiskR w.heap d D) (o : Own w'.heap 0 T_disk_block 256 d.sn (N.flatMap blkC)) (x : Ext (fun i => d.sn.blk = some i) w w') (wf : WF { D with now := N }) : DiskR w'.heap d { D with now := N } :=
  ⟨by rw [x.blk _ (blt r.blk) r.nb.1]; exact r.blk, o, r.firm.ext x fun i hi h => (r.nn i h).1 hi, r.waits.ext x fun i hi h => (r.nn i h).2 hi, r.nb, r.nn, r.nf, wf⟩
theorem DiskR.setFirm {w' : World} {N : List (List Int)} (r : DiskR w.heap d D) (o : Own w'.heap 0 T_disk_block 256 d.sf (N.flatMap blkC)) (x : Ext (fun i => d.sf.blk = some i) w w') (wf : WF { D with firm := N }) : DiskR w'.heap d { D with firm := N } :=
  ⟨by rw [x.blk _ (blt r.blk) r.nb.2.1]; exact r.blk, r.now.ext x fun i hi h => (r.nn i hi).1 h, o, r.waits.ext x fun i hi h => r.nf i h hi, r.nb, r.nn, r.nf, wf⟩
/-- The slice of what waits is replaced. -/
theorem DiskR.setWaits {w' : World} {s : Sl} {W : List (Int × List Int)} (r : DiskR w.heap d D) (o : Own w.heap 0 T_disk_write 257 s (W.flatMap wtC)) (hw : Wrt w d.b (.cells (diskC ⟨d.b, d.sn, d.sf, s⟩ D.steps D.fail D.cut D.down).toArray T_disk_Disk (0, 0)) w')
    (n1 : s.blk ≠ some d.b) (n2 : ∀ i, d.sn.blk = some i → s.blk ≠ some i) (n3 : ∀ i, d.sf.blk = some i → s.blk ≠ some i) (wf : WF { D with waits := W }) : DiskR w'.heap ⟨d.b, d.sn, d.sf, s⟩ { D with waits := W } :=
  ⟨hw.get r.blk, r.now.ext hw.ext fun i hi h => r.nb.1 (by rw [hi, h]), r.firm.ext hw.ext fun i hi h => r.nb.2.1 (by rw [hi, h]), o.ext hw.ext fun i hi h => n1 (by rw [hi, h]), ⟨r.nb.1, r.nb.2.1, n1⟩, fun i hi => ⟨(r.nn i hi).1, n2 i hi⟩, fun i hi => n3 i hi, wf⟩
theorem setRow {l : List (List Int)} {i : Nat} {r : List Int} (h : ∀ x ∈ l, Row x) (hi : i < l.length) (hr : r.length = 256) : setL (l.flatMap blkC) (i * 256) (List.map (Value.int .u8) r ++ []) = (l.set i r).flatMap blkC := by
  have e := flat_set (f := blkC) (n := 256) (l := l) (i := i) (o := 0) (vs := List.map (Value.int .u8) r ++ []) (y := r) (blkC_len h) hi (by rw [List.append_nil, List.length_map]; omega) (by
    rw [setL_all _ _ (by rw [List.append_nil, List.length_map, blkC_len h _ (List.getElem_mem hi)]; exact hr), List.append_nil]; rfl)
  rw [Nat.add_zero] at e
  exact e
theorem rowHeld {S : Nat → Prop} {bs : List Int} {bb off : Nat} (hb : ∀ i (hi : i < (bs.map (Value.int .u8)).length), hcell w.heap bb (off + i) = some (bs.map (Value.int .u8))[i]) (hS : ¬ S bb) : RowC (Held (Ext S w)) ⟨bb, off, none⟩ 0 .u8 bs := by
  refine Held.row fun j hj => ?_
  rw [Nat.add_zero]
  have := hb j (by simpa using hj)
  rw [List.getElem_map] at this
  exact Held.but (Cell.mk this) hS
theorem diskWrite_spec {i : Int} {b : Sl} {bs : List Int} {K : Int → World → Prop} (r : DiskR w.heap d D) (hb : RdB w.heap b bs) (h8 : B8 bs) (hfp : ∀ i, b.blk = some i → ¬ d.fp i) (hs : 0 ≤ D.steps ∧ D.steps < 18446744073709551615) (hw : D.waits.length ≤ 4294967296)
    (k : ∀ d' w', DiskR w'.heap d' (writeR D i bs).2 → Grow w d d' → Ext d.fp w w' → K (writeR D i bs).1 w') : C_disk_Disk_Write d.p i b w K := by
  apply S_disk_Disk_Write
  have hbl := RdB.len hb
  refine If.no ⟨fun w' => w' = w ∧ hasB D i = true ∧ bs.length = 256, ?_, ?_⟩
  · refine diskHas_spec r (If.not (If.cases (fun h => If.bne (fun h1 => ?_) (fun h1 => ⟨rfl, h, by omega⟩)) (fun h => ?_)))
    · have e : writeR D i bs = (2, D) := by unfold writeR; rw [if_neg (by rintro ⟨_, h2⟩; omega)]
      rw [e] at k; exact k d w r (Grow.refl _ _) (Ext.refl _ _)
    · have e : writeR D i bs = (2, D) := by unfold writeR; rw [if_neg (by rintro ⟨h2, _⟩; rw [h] at h2; cases h2)]
      rw [e] at k; exact k d w r (Grow.refl _ _) (Ext.refl _ _)
  · rintro _ w2 ⟨rfl, hh, hlen⟩
    have hi : 0 ≤ i ∧ i < D.now.length := by simpa [hasB] using hh
    refine diskstep_spec r hs fun w3 r3 x3 z3 => ?_
    have x3' : Ext d.fp w2 w3 := x3.mono fun j _ h => .inl h
    refine If.bne (fun he => ?_) (fun he => ?_)
    · have e : writeR D i bs = stepD D := by unfold writeR; rw [if_pos ⟨hh, hlen⟩, if_neg he]
      rw [e] at k; exact k d w3 r3 (Grow.refl _ _) x3'
    · have e : writeR D i bs = (0, writeD (stepD D).2 i bs) := by unfold writeR; rw [if_pos ⟨hh, hlen⟩, if_pos he]
      rw [e] at k
      obtain ⟨s1, s2, s3⟩ := step_same D
      have hi3 : 0 ≤ i ∧ i < (stepD D).2.now.length := by rw [s1]; exact hi
      have hw3 : (stepD D).2.waits.length ≤ 4294967296 := by rw [s3]; exact hw
      generalize (stepD D).2 = D3 at *
      have hb3 : RdB w3.heap b bs := Rd.ext hb x3 fun a j ha hj h => hfp j (by simp [Sl.blk, ha, hj]) (.inl h)
      obtain ⟨bb, off, hba, hcs⟩ := hb3.at_ (by intro h; rw [List.map_eq_nil_iff] at h; rw [h] at hlen; simp at hlen)
      have hbb : b.blk = some bb := by simp [Sl.blk, hba]
      have hnf := hfp bb hbb
      have hl3 := r3.ln
      refine ⟨Ext (fun j => d.sn.blk = some j) w3, (Ext.refl _ _).drew, Nn.mk ⟨d.sn, Held.but (Cell.lst r3.blk rfl) r3.nb.1, by omega, ⟨_, hba, bs, hlen, rowHeld hcs fun h => hnf (.inr (.inl h)), ?_⟩⟩⟩
      have o3 : Own (drewW w3).heap 0 T_disk_block 256 d.sn (D3.now.flatMap blkC) := r3.now
      refine StN.ownL o3 hi3.1 (by omega) (fun v hv => by rw [List.append_nil] at hv; exact oneC_ints v hv) (by rw [List.append_nil, List.length_map]; exact hlen) (by decide) fun w4 o4 x4 z4 => ⟨x4.drew_left, ?_⟩
      rw [setRow r3.wf.rn (by omega) hlen] at o4
      have x4' : Ext (fun j => d.sn.blk = some j) w3 w4 := x4.drew_left
      have wf4 : WF { D3 with now := D3.now.set i.toNat bs } := by
        have := r3.wf
        refine ⟨by simp [this.n], by simp [this.lo], by simp [this.hi], set_rows this.rn ⟨hlen, h8⟩, this.rf, fun p hp => ?_, this.fl, this.ct⟩
        simp only [List.length_set]; exact this.rw p hp
      have r4 := r3.setNow o4 x4' wf4
      have hcs4 : ∀ i (hi : i < (bs.map (Value.int .u8)).length), hcell w4.heap bb (off + i) = some (bs.map (Value.int .u8))[i] := fun j hj => by
        rw [← hcs j hj]; exact hcell_congr (x4'.blk bb (hcell_lt (hcs j hj)) fun h => hnf (.inr (.inl h)))
      refine ⟨Ext (fun j => d.sw.blk = some j) w4, (Ext.refl _ _).drew, Nn.mk ?_⟩
      have ec : ((.int .i64 i : Value) :: ((List.map (Value.int .u8) bs ++ []) ++ [])) ++ [] = wtC (i, bs) := by simp [wtC]
      have ec1 : (.int .i64 i : Value) :: ((List.map (Value.int .u8) bs ++ []) ++ []) = wtC (i, bs) := by simp [wtC]
      have ecl : (wtC (i, bs)).length = 257 := by simp [wtC, hlen]
      have hsw : ∀ j, d.sw.blk = some j → d.fp j := fun j h => .inr (.inr (.inr h))
      refine ⟨d.sw, Held.but (Cell.lst r4.blk rfl) r4.nb.2.2, by omega, ⟨_, hba, bs, hlen, rowHeld hcs4 fun h => hnf (hsw _ h), by rw [List.append_nil, List.length_map]; exact hlen, ?_⟩⟩
      rw [ec, ec1]
      refine ⟨ecl, fun b5 w5 new => ⟨(Ext.refl _ _).drew.no new.ext, ?_⟩⟩
      have r4d : DiskR (drewW w4).heap d { D3 with now := D3.now.set i.toNat bs } := r4
      have r5 := r4d.no new.ext
      have src5 := (Own.new (sz := 257) (n := 1) new (by rw [ecl]) (fun v hv => by
        simp only [wtC, List.mem_cons] at hv
        rcases hv with rfl | hv
        · rfl
        · exact oneC_ints v hv)).rd.src (P := Try.prog)
      have hlw := r5.lw
      simp only at hlw
      refine app_disk_write r5.waits (Nat.zero_le _) src5 (by simp only; omega) fun s6 w6 o6 len6 x6 blk6 => ?_
      have x46 : Ext (fun j => d.sw.blk = some j) w4 w6 := ((Ext.refl _ _).drew.no new.ext).trans x6 fun _ _ h => h
      refine ⟨x46, Nn.mk ?_⟩
      have z5 := new.size
      have ed : (drewW w4).heap.size = w4.heap.size := rfl
      have ed3 : (drewW w3).heap.size = w3.heap.size := rfl
      have z6 := x6.size
      have o6' : Own w6.heap 0 T_disk_write 257 s6 ((D3.waits ++ [(i, bs)]).flatMap wtC) := by
        rw [List.flatMap_append, List.flatMap_singleton]; exact o6
      have r6 : w6.heap[d.b]? = some (.cells (diskC d D3.steps D3.fail D3.cut D3.down).toArray T_disk_Disk (0, 0)) := by
        rw [x46.blk _ (blt r4.blk) r4.nb.2.2]; exact r4.blk
      have fresh : ∀ j, s6.blk = some j → d.sw.blk = some j ∨ w4.heap.size ≤ j := fun j hj => by
        rcases blk6 with h | ⟨j', h, hge⟩
        · exact .inl (by rw [← h]; exact hj)
        · rw [hj] at h; cases h; exact .inr (by omega)
      have lt4 : ∀ j, d.fp j → j < w4.heap.size := fun j hj => r4.lt hj
      refine St1.mk r6 (by simp) rfl fun w7 hw7 => ?_
      have rn6 : Own w6.heap 0 T_disk_block 256 d.sn ((D3.now.set i.toNat bs).flatMap blkC) := r4.now.ext x46 fun j hj h => (r4.nn j hj).2 h
      have rf6 : Own w6.heap 0 T_disk_block 256 d.sf (D3.firm.flatMap blkC) := r4.firm.ext x46 fun j hj h => r4.nf j hj h
      have n1 : s6.blk ≠ some d.b := fun h => by
        rcases fresh _ h with h | h
        · exact r4.nb.2.2 h
        · have := lt4 d.b (.inl rfl); omega
      have n2 : ∀ j, d.sn.blk = some j → s6.blk ≠ some j := fun j hj h => by
        rcases fresh _ h with h | h
        · exact (r4.nn j hj).2 h
        · have := lt4 j (.inr (.inl hj)); omega
      have n3 : ∀ j, d.sf.blk = some j → s6.blk ≠ some j := fun j hj h => by
        rcases fresh _ h with h | h
        · exact r4.nf j hj h
        · have := lt4 j (.inr (.inr (.inl hj))); omega
      have r7 : DiskR w7.heap ⟨d.b, d.sn, d.sf, s6⟩ (writeD D3 i bs) :=
        ⟨hw7.get r6, rn6.ext hw7.ext fun j hj h => r4.nb.1 (by rw [hj, h]), rf6.ext hw7.ext fun j hj h => r4.nb.2.1 (by rw [hj, h]), o6'.ext hw7.ext fun j hj h => n1 (by rw [hj, h]), ⟨r4.nb.1, r4.nb.2.1, n1⟩, fun j hj => ⟨(r4.nn j hj).1, n2 j hj⟩, fun j hj => n3 j hj, write_wf r3.wf hi3 ⟨hlen, h8⟩⟩
      refine k ⟨d.b, d.sn, d.sf, s6⟩ w7 r7 ⟨rfl, fun j hj => ?_⟩ ?_
      · rcases hj with h | h | h | h
        · exact .inl (.inl h)
        · exact .inl (.inr (.inl h))
        · exact .inl (.inr (.inr (.inl h)))
        · rcases fresh j h with h | h
          · exact .inl (hsw j h)
          · exact .inr (by omega)
      · exact ((x3'.trans x4' fun j _ h => .inr (.inl h)).trans x46 fun j _ h => hsw j h).trans hw7.ext fun j _ h => .inl h
/-- One whole row of blocks is copied over another. -/
theorem copyRows {a b : Sl} {A B : List (List Int)} {K : Int → World → Prop} (oa : Own w.heap 0 T_disk_block 256 a (A.flatMap blkC)) (rb : Rd w.heap b 256 (B.flatMap blkC)) (hA : ∀ r ∈ A, Row r) (hB : ∀ r ∈ B, Row r) (hl : B.length = A.length) (hne : 0 < A.length)
    (k : ∀ z w', Own w'.heap 0 T_disk_block 256 a (B.flatMap blkC) → Ext (fun i => a.blk = some i) w w' → w'.heap.size = w.heap.size → K z w') : CopyW Try.prog 80 80 a b.v K w := by
  have la := oa.len
  have lb := rb.len
  have fa := flat_len' (blkC_len hA)
  have fb := flat_len' (blkC_len hB)
  obtain ⟨bn, rest, ha, hba, hb, hc, hcap⟩ := oa.place (by intro h; rw [h] at fa; simp at fa; omega)
  have hlen : b.len = a.len := by omega
  have hmin : min b.len a.len * 256 = (B.flatMap blkC).length := by rw [hlen, Nat.min_self]; omega
  refine copy_disk_block ha hb rb (by rw [hmin, List.length_append]; omega) fun w' hw => ?_
  rw [hmin, List.take_of_length_le (Nat.le_refl _)] at hw
  obtain ⟨o', x', z'⟩ := oa.upd ha hba hb hc hcap hw rb.cells (by omega)
  rw [setL_all _ _ (by omega)] at o'
  exact k _ w' o' x' z'
theorem diskSync_spec {K : Int → World → Prop} (r : DiskR w.heap d D) (hs : 0 ≤ D.steps ∧ D.steps < 18446744073709551615)
    (k : ∀ d' w', DiskR w'.heap d' (syncR D).2 → Grow w d d' → Ext d.fp w w' → K (syncR D).1 w') : C_disk_Disk_Sync d.p w K := by
  apply S_disk_Disk_Sync
  refine If.no (diskstep_spec r hs fun w3 r3 x3 z3 => ?_)
  have x3' : Ext d.fp w w3 := x3.mono fun j _ h => .inl h
  refine If.bne (fun he => ?_) (fun he => ?_)
  · have e : syncR D = stepD D := by unfold syncR; rw [if_neg he]
    rw [e] at k; exact k d w3 r3 (Grow.refl _ _) x3'
  · have e : syncR D = (0, syncD (stepD D).2) := by unfold syncR; rw [if_pos he]
    rw [e] at k
    generalize (stepD D).2 = D3 at *
    have hn := r3.wf.n
    have hlo := r3.wf.lo
    refine ⟨Ext (fun j => d.sf.blk = some j) w3, (Ext.refl _ _).drew, Nn.mk ⟨d.sf, Held.but (Cell.lst r3.blk rfl) r3.nb.2.1, Nn.mk ⟨d.sn, Held.but (Cell.lst r3.blk rfl) r3.nb.2.1, ?_⟩⟩⟩
    have rd : DiskR (drewW w3).heap d D3 := r3
    refine copyRows rd.firm rd.now.rd r3.wf.rf r3.wf.rn hn.symm (by omega) fun z w4 o4 x4 z4 => ⟨x4.drew_left, Nn.mk ?_⟩
    have r4 := r3.setFirm o4 x4.drew_left ⟨rfl, r3.wf.lo, r3.wf.hi, r3.wf.rn, r3.wf.rn, r3.wf.rw, r3.wf.fl, r3.wf.ct⟩
    refine St1.mk r4.blk (by simp) rfl fun w5 hw5 => ?_
    have r5 : DiskR w5.heap ⟨d.b, d.sn, d.sf, ⟨none, 0, 0⟩⟩ (syncD D3) := r4.setWaits (s := ⟨none, 0, 0⟩) (W := []) (Own.nil _ _ _ _) hw5 (by simp [Sl.blk]) (fun _ _ => by simp [Sl.blk]) (fun _ _ => by simp [Sl.blk]) (sync_wf (D := D3) r3.wf)
    refine k _ w5 r5 ⟨rfl, fun j hj => .inl ?_⟩ ((x3'.trans x4.drew_left fun j _ h => .inr (.inr (.inl h))).trans hw5.ext fun j _ h => .inl h)
    rcases hj with h | h | h | h
    · exact .inl h
    · exact .inr (.inl h)
    · exact .inr (.inr (.inl h))
    · simp [Sl.blk] at h
end
end Go.Proofs.Ytdgebnphgfbegaa
