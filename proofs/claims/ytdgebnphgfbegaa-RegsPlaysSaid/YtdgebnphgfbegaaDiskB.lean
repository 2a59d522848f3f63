/- Layer 8: New, Read, Firm, Write, Sync. -/
import Derived.Test.YtdgebnphgfbegaaDiskA
namespace Go.Proofs.Ytdgebnphgfbegaa
open Go.V Go.V.Dk
abbrev OwnB (h : Array Obj) (base : Nat) (s : Sl) (l : List Int) : Prop := Own h base T_uint8 1 s (l.map (Value.int .u8))
abbrev RdB (h : Array Obj) (s : Sl) (l : List Int) : Prop := Rd h s 1 (l.map (Value.int .u8))
theorem RdB.len {h : Array Obj} {s : Sl} {l : List Int} (o : RdB h s l) : s.len = l.length := by have := Rd.len o; simp at this; exact this.symm
theorem OwnB.len {h : Array Obj} {base : Nat} {s : Sl} {l : List Int} (o : OwnB h base s l) : s.len = l.length := RdB.len o.rd
theorem blkC_zero : blkC zeroRow = List.replicate 256 (.int .u8 0) := by unfold blkC zeroRow; rw [List.map_replicate]
theorem flat_zero (n : Nat) : (List.replicate n (List.replicate 256 (Value.int .u8 0))).flatten = (List.replicate n zeroRow).flatMap blkC := by
  rw [List.flatMap_def, List.map_replicate, blkC_zero]
theorem newRows {w w' : World} {b n : Nat} (h : New w (.cells (List.replicate n (List.replicate 256 (Value.int .u8 0))).flatten.toArray T_disk_block) b w') :
    Own w'.heap w.heap.size T_disk_block 256 ⟨some ⟨b, 0, none⟩, n, n⟩ ((List.replicate n zeroRow).flatMap blkC) := by
  have := Own.make (l := n) h (Nat.le_refl _) (fun v hv => by rw [List.mem_replicate] at hv; rw [hv.2]; rfl)
  rw [List.length_replicate, flat_zero] at this
  exact this
theorem newDisk {w3 w4 : World} {b : Nat} {sn sf : Sl} {n : Nat} (hn : 8 ≤ n ∧ n ≤ 4096) (on : Own w3.heap 0 T_disk_block 256 sn ((List.replicate n zeroRow).flatMap blkC)) (of : Own w3.heap 0 T_disk_block 256 sf ((List.replicate n zeroRow).flatMap blkC))
    (hne : ∀ i, sn.blk = some i → sf.blk ≠ some i) (new : New w3 (.cells [sn.v, sf.v, .slice none 0 0, .int .u64 0, .int .i64 0, .int .i64 (-1), .bool false].toArray T_disk_Disk) b w4) :
    DiskR w4.heap ⟨b, sn, sf, ⟨none, 0, 0⟩⟩ (newD n) := by
  have hb := new.at_
  refine ⟨new.get, on.no new.ext, of.no new.ext, Own.nil _ _ _ _, ⟨fun h => ?_, fun h => ?_, by simp [Sl.blk]⟩, fun i hi => ⟨hne i hi, by simp [Sl.blk]⟩, fun i _ => by simp [Sl.blk], newD_wf hn⟩
  · have := (on.lt h).2; simp only at this; omega
  · have := (of.lt h).2; simp only at this; omega
theorem diskNew_spec {n : Int} {w : World} {K : Option Addr → Int → World → Prop} (k2 : ¬ (8 ≤ n ∧ n ≤ 4096) → K none 2 w)
    (k : 8 ≤ n ∧ n ≤ 4096 → ∀ d w', DiskR w'.heap d (newD n.toNat) → (∀ i, d.fp i → w.heap.size ≤ i) → Ext No w w' → K d.p 0 w') : C_disk_New n w K := by
  apply S_disk_New
  refine ⟨fun w' => w' = w ∧ 8 ≤ n ∧ n ≤ 4096, ?_, ?_⟩
  · exact If.dec (fun h => k2 (by omega)) (fun h => If.dec (fun h => k2 (by omega)) (fun h => ⟨rfl, by omega, by omega⟩))
  · rintro _ w1 ⟨rfl, hn⟩
    have fp : ∀ {b b1 b2 : Nat} {w2 w3 : World} {c c' : List Value} {T T' : TypeId}, New (drewW w1) (.cells c.toArray T) b1 w2 → New w2 (.cells c'.toArray T') b2 w3 → b = w3.heap.size →
        ∀ i, (i = b ∨ b1 = i ∨ b2 = i) → w1.heap.size ≤ i := fun n1 n2 hb i hi => by
      have := n1.at_; have := n2.at_; have := n1.size; have := n2.size
      have e : (drewW w1).heap.size = w1.heap.size := rfl
      omega
    refine ⟨Ext No w1, (Ext.refl _ _).drew, ?_, ?_⟩
    · refine MkW.mk (by omega) (by omega) (by omega) (by omega) fun b1 w2 n1 => ⟨(Ext.refl _ _).drew.no n1.ext, MkW.mk (by omega) (by omega) (by omega) (by omega) fun b2 w3 n2 => ⟨((Ext.refl _ _).drew.no n1.ext).no n2.ext, fun b w4 new => ⟨(((Ext.refl _ _).drew.no n1.ext).no n2.ext).no new.ext, ?_⟩⟩⟩
      refine k hn ⟨b, ⟨some ⟨b1, 0, none⟩, n.toNat, n.toNat⟩, ⟨some ⟨b2, 0, none⟩, n.toNat, n.toNat⟩, ⟨none, 0, 0⟩⟩ w4 (newDisk ⟨by omega, by omega⟩ (((newRows n1).mono (Nat.zero_le _)).no n2.ext) ((newRows n2).mono (Nat.zero_le _)) (fun i h1 h2 => ?_) new) (fun i hi => ?_) ((((Ext.refl _ _).drew.no n1.ext).no n2.ext).no new.ext)
      · simp [Sl.blk] at h1 h2; have := n1.at_; have := n2.at_; have := n1.size; omega
      · exact fp n1 n2 new.at_ i (by simpa [Dev.fp, Sl.blk] using hi)
    · refine MkW.mk (by omega) (by omega) (by omega) (by omega) fun b1 w2 n1 => ⟨(Ext.refl _ _).drew.no n1.ext, MkW.mk (by omega) (by omega) (by omega) (by omega) fun b2 w3 n2 => ⟨((Ext.refl _ _).drew.no n1.ext).no n2.ext, fun b w4 new => ⟨(((Ext.refl _ _).drew.no n1.ext).no n2.ext).no new.ext, ?_⟩⟩⟩
      refine k hn ⟨b, ⟨some ⟨b2, 0, none⟩, n.toNat, n.toNat⟩, ⟨some ⟨b1, 0, none⟩, n.toNat, n.toNat⟩, ⟨none, 0, 0⟩⟩ w4 (newDisk ⟨by omega, by omega⟩ ((newRows n2).mono (Nat.zero_le _)) (((newRows n1).mono (Nat.zero_le _)).no n2.ext) (fun i h1 h2 => ?_) new) (fun i hi => ?_) ((((Ext.refl _ _).drew.no n1.ext).no n2.ext).no new.ext)
      · simp [Sl.blk] at h1 h2; have := n1.at_; have := n2.at_; have := n1.size; omega
      · exact fp n1 n2 new.at_ i (by rcases hi with h | h | h | h <;> simp [Sl.blk] at h <;> omega)
theorem Cut.whole {b n : Nat} {K : Sl → Prop} (hn : 0 < n) (k : K ⟨some ⟨b, 0, none⟩, n, n⟩) : Cut ⟨some (Addr.mk b 0 none), n, n⟩ 0 (((n : Nat) : Int)) (((n : Nat) : Int)) 1 K := by
  refine Cut.mk (by omega) (by omega) (by omega) (by simp) ?_
  have e : cutA (some (Addr.mk b 0 none)) ((n : Int)).toNat (0 : Int).toNat 1 = some ⟨b, 0, none⟩ := by
    unfold cutA; rw [if_neg (by simp; omega)]; simp [addr_add_none]
  simp only [e]
  have e2 : ((n : Int) - 0).toNat = n := by omega
  rw [e2]; exact k
/-- A row of 256 bytes is copied into a block of its own. -/
theorem rowCopy {w1 : World} {l : List Int} {K : Sl → World → Prop} (hl : l.length = 256) (k : ∀ s w', Own w'.heap w1.heap.size T_disk_block 1 s (blkC l) → Ext No w1 w' → K s w') :
    NewW w1 (.cells (List.replicate 256 (Value.int .u8 0)).toArray 85) fun b w2 => List.length (α := Value) (List.map (Value.int .u8) l ++ []) = 256 ∧ StN w2 (Addr.mk b 0 none) (List.map (Value.int .u8) l ++ []) fun w3 =>
      Cut ⟨some (Addr.mk b 0 none), 256, 256⟩ 0 (((256 : Nat) : Int)) (((256 : Nat) : Int)) 1 fun s => K s w3 := by
  refine fun b w2 new => ⟨by rw [List.append_nil, List.length_map]; exact hl, _, _, _, new.get, rfl, by show 0 + _ ≤ _; rw [List.append_nil, List.length_map, List.size_toArray, List.length_replicate]; omega, .inr (.inr (Nat.le_refl _)), fun v hv => ?_, fun w3 hw => Cut.whole (by decide) ?_⟩
  · rw [List.append_nil] at hv; exact oneC_ints v hv
  · have e : setL (List.replicate 256 (Value.int .u8 0)) 0 (List.map (Value.int .u8) l ++ []) = blkC l := by
      rw [setL_all _ _ (by rw [List.append_nil, List.length_map, List.length_replicate]; exact hl), List.append_nil]; rfl
    refine k _ w3 ⟨by simp [blkC, hl], .inr ⟨b, [], rfl, by rw [new.at_]; exact Nat.le_refl _, ?_, by simp [blkC, hl], Nat.le_refl _⟩, oneC_ints⟩ (new.ext.trans hw.ext fun i hi h => by have := new.at_; simp only at h; omega)
    rw [hw.get new.get]
    show some (Obj.cells ⟨setL (List.replicate 256 (Value.int .u8 0)) 0 (List.map (Value.int .u8) l ++ [])⟩ 85 (0, 0)) = _
    rw [e, List.append_nil]
section
variable {w : World} {d : Dev} {D : DS}
theorem rowAt {s : Sl} {l : List (List Int)} {i : Int} {K : Addr → Prop} (h : Rd w.heap s 256 (l.flatMap blkC)) (hr : ∀ r ∈ l, Row r) (h0 : 0 ≤ i) (h1 : i < (s.len : Int))
    (k : ∀ b o, s.blk = some b → RowC (Cell w) ⟨b, o, none⟩ 0 .u8 (l.getD i.toNat []) → K ⟨b, o, none⟩) : Ix s.a s.len i 256 K :=
  Ix.elem h (blkC_len hr) (by decide) h0 h1 fun b o hi hb hc => by
    have e : l.getD i.toNat [] = l[i.toNat] := by simp [List.getD, hi]
    refine k b o hb (Cell.row fun j hj => ?_)
    rw [Nat.add_zero]
    refine hc j _ ?_
    simp only [e] at hj ⊢
    simp [blkC, hj]
theorem diskRead_spec {i : Int} {K : Sl → Int → World → Prop} (r : DiskR w.heap d D) (k2 : hasB D i = false → K ⟨none, 0, 0⟩ 2 w) (k81 : hasB D i = true → D.down = true → K ⟨none, 0, 0⟩ 81 w)
    (k0 : hasB D i = true → D.down = false → ∀ s w', Own w'.heap w.heap.size T_disk_block 1 s (blkC (D.now.getD i.toNat [])) → Ext No w w' → K s 0 w') : C_disk_Disk_Read d.p i w K := by
  apply S_disk_Disk_Read
  refine If.no (diskHas_spec r (If.not (If.cases (fun h => ?_) (fun h => k2 h))))
  have hi : 0 ≤ i ∧ i < D.now.length := by simpa [hasB] using h
  have hl := r.ln
  refine Nn.mk ⟨_, Cell.lst r.blk rfl, If.cases (fun hd => k81 h hd) (fun hd => Nn.mk ⟨d.sn, Cell.lst r.blk rfl, rowAt r.now.rd r.wf.rn hi.1 (by omega) fun b o _ hc => ⟨_, (getD_row r.wf.rn (by omega)).1, hc, ?_⟩⟩)⟩
  exact rowCopy (getD_row r.wf.rn (by omega)).1 (k0 h hd)
theorem diskFirm_spec {i : Int} {K : Sl → Int → World → Prop} (r : DiskR w.heap d D) (k2 : hasB D i = false → K ⟨none, 0, 0⟩ 2 w)
    (k0 : hasB D i = true → ∀ s w', Own w'.heap w.heap.size T_disk_block 1 s (blkC (D.firm.getD i.toNat [])) → Ext No w w' → K s 0 w') : C_disk_Disk_Firm d.p i w K := by
  apply S_disk_Disk_Firm
  refine If.no (diskHas_spec r (If.not (If.cases (fun h => ?_) (fun h => k2 h))))
  have hi : 0 ≤ i ∧ i < D.now.length := by simpa [hasB] using h
  have hl := r.lf
  have hn := r.wf.n
  refine Nn.mk ⟨d.sf, Cell.lst r.blk rfl, rowAt r.firm.rd r.wf.rf hi.1 (by omega) fun b o _ hc => ⟨_, (getD_row r.wf.rf (by omega)).1, hc, ?_⟩⟩
  exact rowCopy (getD_row r.wf.rf (by omega)).1 (k0 h)
set_option maxRecDepth 20000 in
theorem full_spec {x : Int} {K : Sl → World → Prop} (k : ∀ s w', OwnB w'.heap w.heap.size s (List.replicate 256 x) → Ext No w w' → K s w') : C_law08_full x w K := by
  apply S_law08_full
  refine MkW.mk (by omega) (by omega) (by omega) (by omega) fun b w1 new => ?_
  have own1 := Own.make (l := 256) (zs := [Value.int .u8 0]) new (Nat.le_refl _) (by simp [oneC])
  have e0 : (List.replicate 256 [Value.int .u8 0]).flatten = (List.replicate 256 (0 : Int)).map (Value.int .u8) := by
    rw [List.map_replicate]; exact List.flatten_replicate_singleton
  rw [e0] at own1
  have own2 : OwnB w1.heap w.heap.size ⟨some ⟨b, 0, none⟩, 256, 256⟩ (List.replicate 0 x ++ List.replicate (256 - 0) 0) := own1
  show ∃ I0 : Nat → Int → World → Prop, (∃ m, I0 m 0 w1) ∧ ∀ (_ : Env) (m0 : Nat) (t : Int) (w2 : World), I0 m0 t w2 → If (decide (t < ((256 : Nat) : Int))) (Ix (some (Addr.mk b 0 none)) 256 t 1 fun a => St1 w2 a (.int .u8 x) fun w3 => Ar .i64 (t + 1) fun z => ∃ m1, m1 < m0 ∧ I0 m1 z w3) (K ⟨some ⟨b, 0, none⟩, 256, 256⟩ w2)
  refine ⟨fun m t w' => ∃ j : Nat, t = j ∧ m = 256 - j ∧ j ≤ 256 ∧ OwnB w'.heap w.heap.size ⟨some ⟨b, 0, none⟩, 256, 256⟩ (List.replicate j x ++ List.replicate (256 - j) 0) ∧ Ext No w w',
    ⟨256, 0, rfl, by omega, by omega, own2, new.ext⟩, ?_⟩
  intro _ m t w2 hI
  obtain ⟨j, ht, hm, hj, own, ext⟩ := hI
  subst ht
  refine If.dec (fun hlt => ?_) (fun hge => ?_)
  · have hj' : j < 256 := by omega
    refine St1.own own (by omega) hlt rfl fun w3 o3 ext3 _ => Ar.i64 (by omega) ⟨_, ?_, j + 1, by omega, rfl, by omega, ?_, ext.trans ext3 fun i hi h => ?_⟩
    · omega
    · have e : ((List.replicate j x ++ List.replicate (256 - j) 0).map (Value.int .u8)).set (j : Int).toNat (.int .u8 x) = (List.replicate (j + 1) x ++ List.replicate (256 - (j + 1)) 0).map (Value.int .u8) := by
        rw [Int.toNat_natCast, ← List.map_set, List.set_append_right _ _ (by simp)]
        rw [List.length_replicate, Nat.sub_self, show 256 - j = (256 - (j + 1)) + 1 by omega, List.replicate_succ, List.set_cons_zero, List.replicate_succ' (n := j)]
        simp
      rw [e] at o3; exact o3
    · have := (own.lt h).1; omega
  · have : j = 256 := by omega
    subst this
    refine k _ w2 ?_ ext
    simpa using own
end
end Go.Proofs.Ytdgebnphgfbegaa
