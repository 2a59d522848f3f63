/- Layer 8: Fork; a device on which nothing fails; steps that the laws share. -/
import Derived.Test.YtdgebnphgfbegaaDiskG
namespace Go.Proofs.Ytdgebnphgfbegaa
open Go.V Go.V.Dk
section
variable {w : World} {d : Dev} {D : DS}
set_option maxHeartbeats 1000000 in
theorem diskFork_spec {K : Option Addr → World → Prop} (r : DiskR w.heap d D) (hw : D.waits.length ≤ 4294967296)
    (k : ∀ d' w', DiskR w'.heap d' D → (∀ i, d'.fp i → w.heap.size ≤ i) → Ext No w w' → K d'.p w') : C_disk_Disk_Fork d.p w K := by
  apply S_disk_Disk_Fork
  have ln := r.ln
  have lf := r.lf
  have lw := r.lw
  have hhi := r.wf.hi
  refine If.no (Nn.mk ⟨d.sn, Cell.lst r.blk rfl, d.sf, Cell.lst r.blk rfl, d.sw, Cell.lst r.blk rfl, _, Cell.lst r.blk rfl, _, Cell.lst r.blk rfl, _, Cell.lst r.blk rfl, _, Cell.lst r.blk rfl, fun b w1 n1 => ⟨rfl, _, _, _, n1.get, rfl, by simp, .inr (.inr (Nat.le_refl _)), fun v hv => by simp at hv; rcases hv with rfl | rfl | rfl | rfl | rfl | rfl | rfl <;> rfl, fun w2 hw2 => ?_⟩⟩)
  have hb2 : w2.heap[b]? = some (.cells (diskC d D.steps D.fail D.cut D.down).toArray T_disk_Disk (0, 0)) := hw2.get n1.get
  have ab := n1.at_
  have z1 := n1.size
  have z2 := hw2.size
  have x2 : Ext No w w2 := n1.ext.trans hw2.ext fun i hi h => by
    have h' : i = b := h
    omega
  intro b1 w3 n3
  have a3 := n3.at_
  have z3 := n3.size
  have x3 := x2.no n3.ext
  have r3 := r.no x3
  refine Nn.mk ⟨d.sn, Cell.lst r3.blk rfl, app_disk_block (base := w2.heap.size) (Own.new (sz := 256) (n := 0) n3 rfl (by simp)) (by omega) r3.now.rd.src (by simp only; omega) fun s4 w4 o4 len4 x4 blk4 => ?_⟩
  have z4 := x4.size
  have x4' : Ext No w w4 := x3.trans x4 fun i hi h => by
    have h' : b1 = i := by simpa [Sl.blk] using h
    omega
  have hb4 : w4.heap[b]? = some (.cells (diskC d D.steps D.fail D.cut D.down).toArray T_disk_Disk (0, 0)) := by
    rw [x4.blk b (by omega) (fun h => by
      have h' : b1 = b := by simpa [Sl.blk] using h
      omega), n3.ext.blk b (by omega) id]; exact hb2
  have s4lt : ∀ i, s4.blk = some i → w2.heap.size ≤ i ∧ i < w4.heap.size := fun i hi => o4.lt hi
  refine St1.mk hb4 (by simp) rfl fun w5 hw5 => ?_
  have z5 := hw5.size
  have hb5 : w5.heap[b]? = some (.cells (diskC ⟨b, s4, d.sf, d.sw⟩ D.steps D.fail D.cut D.down).toArray T_disk_Disk (0, 0)) := hw5.get hb4
  have x5 : Ext No w w5 := x4'.trans hw5.ext fun i hi h => by
    have h' : i = b := h
    omega
  have o5 : Own w5.heap 0 T_disk_block 256 s4 (D.now.flatMap blkC) := (o4.mono (Nat.zero_le _)).ext hw5.ext fun i hi h => by
    have h' : i = b := h
    have := s4lt i hi
    omega
  intro b6 w6 n6
  have a6 := n6.at_
  have z6 := n6.size
  have x6 := x5.no n6.ext
  have r6 := r.no x6
  refine Nn.mk ⟨d.sf, Cell.lst r6.blk rfl, app_disk_block (base := w5.heap.size) (Own.new (sz := 256) (n := 0) n6 rfl (by simp)) (by omega) r6.firm.rd.src (by simp only; omega) fun s7 w7 o7 len7 x7 blk7 => ?_⟩
  have z7 := x7.size
  have x7' : Ext No w w7 := x6.trans x7 fun i hi h => by
    have h' : b6 = i := by simpa [Sl.blk] using h
    omega
  have nb6 : ∀ i, i < w5.heap.size → ¬ (⟨some ⟨b6, 0, none⟩, 0, 0⟩ : Sl).blk = some i := fun i hi h => by
    have h' : b6 = i := by simpa [Sl.blk] using h
    omega
  have hb7 : w7.heap[b]? = some (.cells (diskC ⟨b, s4, d.sf, d.sw⟩ D.steps D.fail D.cut D.down).toArray T_disk_Disk (0, 0)) := by
    rw [x7.blk b (by omega) (nb6 b (by omega)), n6.ext.blk b (by omega) id]; exact hb5
  have s7lt : ∀ i, s7.blk = some i → w5.heap.size ≤ i ∧ i < w7.heap.size := fun i hi => o7.lt hi
  have o7a : Own w7.heap 0 T_disk_block 256 s4 (D.now.flatMap blkC) := (o5.no n6.ext).ext x7 fun i hi => nb6 i (by have := s4lt i hi; omega)
  refine St1.mk hb7 (by simp) rfl fun w8 hw8 => ?_
  have z8 := hw8.size
  have hb8 : w8.heap[b]? = some (.cells (diskC ⟨b, s4, s7, d.sw⟩ D.steps D.fail D.cut D.down).toArray T_disk_Disk (0, 0)) := hw8.get hb7
  have x8 : Ext No w w8 := x7'.trans hw8.ext fun i hi h => by
    have h' : i = b := h
    omega
  have o8a : Own w8.heap 0 T_disk_block 256 s4 (D.now.flatMap blkC) := o7a.ext hw8.ext fun i hi h => by
    have h' : i = b := h
    have := s4lt i hi
    omega
  have o8b : Own w8.heap 0 T_disk_block 256 s7 (D.firm.flatMap blkC) := (o7.mono (Nat.zero_le _)).ext hw8.ext fun i hi h => by
    have h' : i = b := h
    have := s7lt i hi
    omega
  intro b9 w9 n9
  have a9 := n9.at_
  have z9 := n9.size
  have x9 := x8.no n9.ext
  have r9 := r.no x9
  refine Nn.mk ⟨d.sw, Cell.lst r9.blk rfl, app_disk_write (base := w8.heap.size) (Own.new (sz := 257) (n := 0) n9 rfl (by simp)) (by omega) r9.waits.rd.src (by simp only; omega) fun s10 w10 o10 len10 x10 blk10 => ?_⟩
  have z10 := x10.size
  have x10' : Ext No w w10 := x9.trans x10 fun i hi h => by
    have h' : b9 = i := by simpa [Sl.blk] using h
    omega
  have nb9 : ∀ i, i < w8.heap.size → ¬ (⟨some ⟨b9, 0, none⟩, 0, 0⟩ : Sl).blk = some i := fun i hi h => by
    have h' : b9 = i := by simpa [Sl.blk] using h
    omega
  have hb10 : w10.heap[b]? = some (.cells (diskC ⟨b, s4, s7, d.sw⟩ D.steps D.fail D.cut D.down).toArray T_disk_Disk (0, 0)) := by
    rw [x10.blk b (by omega) (nb9 b (by omega)), n9.ext.blk b (by omega) id]; exact hb8
  have s10lt : ∀ i, s10.blk = some i → w8.heap.size ≤ i ∧ i < w10.heap.size := fun i hi => o10.lt hi
  have o10a : Own w10.heap 0 T_disk_block 256 s4 (D.now.flatMap blkC) := (o8a.no n9.ext).ext x10 fun i hi => nb9 i (by have := s4lt i hi; omega)
  have o10b : Own w10.heap 0 T_disk_block 256 s7 (D.firm.flatMap blkC) := (o8b.no n9.ext).ext x10 fun i hi => nb9 i (by have := s7lt i hi; omega)
  refine St1.mk hb10 (by simp) rfl fun w11 hw11 => ?_
  have nb : ∀ {s : Sl}, (∀ i, s.blk = some i → w2.heap.size ≤ i) → ∀ i, s.blk = some i → ¬ i = b := fun h i hi e => by
    have := h i hi
    omega
  have p4 : ∀ i, s4.blk = some i → w2.heap.size ≤ i := fun i hi => (s4lt i hi).1
  have p7 : ∀ i, s7.blk = some i → w2.heap.size ≤ i := fun i hi => by have := s7lt i hi; omega
  have p10 : ∀ i, s10.blk = some i → w2.heap.size ≤ i := fun i hi => by have := s10lt i hi; omega
  refine k ⟨b, s4, s7, s10⟩ w11 ⟨hw11.get hb10, o10a.ext hw11.ext (nb p4), o10b.ext hw11.ext (nb p7), (o10.mono (Nat.zero_le _)).ext hw11.ext (nb p10), ⟨fun h => nb p4 _ h rfl, fun h => nb p7 _ h rfl, fun h => nb p10 _ h rfl⟩, fun i hi => ⟨fun h => ?_, fun h => ?_⟩, fun i hi h => ?_, r.wf⟩ (fun i hi => ?_) (x10'.trans hw11.ext fun i hi h => ?_)
  · have := s4lt i hi; have := s7lt i h; omega
  · have := s4lt i hi; have := s10lt i h; omega
  · have := s7lt i hi; have := s10lt i h; omega
  · rcases hi with h | h | h | h
    · simp only at h; omega
    · have := p4 i h; omega
    · have := p7 i h; omega
    · have := p10 i h; omega
  · have h' : i = b := h
    omega
/-- A call of a law, loaded into a block of its own. -/
theorem opAt {l : Sl} {O : List OpV} {t : Int} {K : Nat → World → Prop} (hO : Rd w.heap l 5 (O.flatMap OpV.c)) (h0 : 0 ≤ t) (h1 : t < (l.len : Int))
    (k : ∀ (_ : t.toNat < O.length) b w', w'.heap[b]? = some (.cells O[t.toNat].c.toArray 32 (0, 0)) → w.heap.size ≤ b → Ext No w w' → K b w') :
    Ix l.a l.len t 5 fun a =>
    ∃ c : Int, Cell w a (.int .i64 c) ∧
    ∃ c_1 : Int, Cell w (a.add 1) (.int .i64 c_1) ∧
    ∃ c_2 : Int, Cell w (a.add 2) (.int .i64 c_2) ∧
    ∃ c_3 : Sl, Cell w (a.add 3) (.slice c_3.a c_3.len c_3.cap) ∧
    ∃ c_4 : Sl, Cell w (a.add 4) (.slice c_4.a c_4.len c_4.cap) ∧
    NewW w (.cells [.int .i64 0, .int .i64 0, .int .i64 0, .slice none 0 0, .slice none 0 0].toArray 32) fun b w7 =>
    List.length (α := Value) [.int .i64 c, .int .i64 c_1, .int .i64 c_2, .slice c_3.a c_3.len c_3.cap, .slice c_4.a c_4.len c_4.cap] = 5 ∧ StN w7 (Addr.mk b 0 none) [.int .i64 c, .int .i64 c_1, .int .i64 c_2, .slice c_3.a c_3.len c_3.cap, .slice c_4.a c_4.len c_4.cap] fun w8 => K b w8 := by
  refine Ix.elem hO (fun o _ => rfl) (by decide) h0 h1 fun b o hi hb hcell => ?_
  have k := k hi
  generalize O[t.toNat] = op at hcell k
  refine ⟨op.kind, hcell 0 _ rfl, op.i, hcell 1 _ rfl, op.at_, hcell 2 _ rfl, op.b, hcell 3 _ rfl, op.masks, hcell 4 _ rfl, fun bl w7 n7 => ⟨rfl, _, _, _, n7.get, rfl, by simp, .inr (.inr (Nat.le_refl _)), fun v hv => by simp at hv; rcases hv with rfl | rfl | rfl | rfl | rfl <;> rfl, fun w8 hw8 => ?_⟩⟩
  have hbl : w8.heap[bl]? = some (.cells op.c.toArray 32 (0, 0)) := hw8.get n7.get
  have abl := n7.at_
  refine k bl w8 hbl (by omega) (n7.ext.trans hw8.ext fun i hi h => ?_)
  have h' : i = bl := h
  omega
end
end Go.Proofs.Ytdgebnphgfbegaa
namespace Go.V.Dk
open Go.V
def rowOf (x : Int) : List Int := List.replicate 256 x
theorem rowOf_row {x : Int} (h : 0 ≤ x ∧ x ≤ 255) : Row (rowOf x) := ⟨by unfold rowOf; exact List.length_replicate, fun y hy => by unfold rowOf at hy; rw [List.mem_replicate] at hy; omega⟩
theorem rowOf_get {x : Int} {i : Nat} (h : i < 256) : (rowOf x).getD i 0 = x := by unfold rowOf; simp only [List.getD, List.getElem?_replicate, h, if_true, Option.getD_some]
/-- Nothing fails. -/
structure CalmD (j : Nat) (D : DS) : Prop where
  n : D.now.length = 8
  fail : D.fail = 0
  cut : D.cut = -1
  down : D.down = false
  steps : 0 ≤ D.steps ∧ D.steps ≤ 2 * j
  waits : D.waits.length ≤ j
def wrD (D : DS) (z : Int) (r : List Int) : DS := writeD { D with steps := D.steps + 1 } z r
theorem CalmD.step {j : Nat} {D : DS} (c : CalmD j D) : stepD D = (0, { D with steps := D.steps + 1 }) := by
  unfold stepD
  rw [if_neg (by rw [c.down, c.cut]; simp), if_neg (by rw [c.fail]; omega), if_neg (by rw [c.cut]; omega)]
theorem CalmD.writeR {j : Nat} {D : DS} (c : CalmD j D) {z : Int} (hz : 0 ≤ z ∧ z ≤ 7) {r : List Int} (hr : r.length = 256) : writeR D z r = (0, wrD D z r) := by
  unfold Dk.writeR
  rw [if_pos ⟨by unfold hasB; rw [c.n]; simp; omega, hr⟩, c.step, if_pos rfl]
  rfl
theorem CalmD.syncR {j : Nat} {D : DS} (c : CalmD j D) : syncR D = (0, syncD { D with steps := D.steps + 1 }) := by
  unfold Dk.syncR
  rw [c.step, if_pos rfl]
theorem CalmD.write {j : Nat} {D : DS} (c : CalmD j D) (z : Int) (r : List Int) : CalmD (j + 1) (wrD D z r) := by
  have h1 := c.steps
  have h2 := c.waits
  refine ⟨by simp [wrD, writeD, c.n], c.fail, c.cut, c.down, ?_, ?_⟩
  · simp only [wrD, writeD]; omega
  · simp only [wrD, writeD, List.length_append, List.length_singleton]; omega
theorem CalmD.writeSync {j : Nat} {D : DS} (c : CalmD j D) (z : Int) (r : List Int) : CalmD (j + 1) (syncD { wrD D z r with steps := (wrD D z r).steps + 1 }) := by
  have h1 := c.steps
  refine ⟨by simp [syncD, wrD, writeD, c.n], c.fail, c.cut, c.down, ?_, ?_⟩
  · simp only [syncD, wrD, writeD]; omega
  · simp [syncD]
/-- What is firm, with all that waits. -/
def allW (F : List (List Int)) (ws : List (Int × List Int)) : List (List Int) := ws.foldl (fun F p => F.set p.1.toNat p.2) F
theorem mixB_15 {i : Nat} (hi : i < 256) (old new : Int) : mixB 15 i old new = new := by
  have hd : i / 64 = 0 ∨ i / 64 = 1 ∨ i / 64 = 2 ∨ i / 64 = 3 := by omega
  unfold mixB
  rw [if_pos]
  rcases hd with e | e | e | e <;> rw [e] <;> decide
theorem mixR_get {m : Int} {old new : List Int} {i : Nat} (hi : i < 256) : (mixR m old new).getD i 0 = mixB m i (old.getD i 0) (new.getD i 0) := by
  unfold mixR
  rw [List.getD, List.getElem?_map, List.getElem?_range hi]; rfl
theorem mixR_len {m : Int} {old new : List Int} : (mixR m old new).length = 256 := by unfold mixR; rw [List.length_map, List.length_range]
theorem getD_get {l : List Int} {i : Nat} (h : i < l.length) : l.getD i 0 = l[i] := by simp [List.getD, h]
theorem mixR_15 {old new : List Int} (h : new.length = 256) : mixR 15 old new = new := by
  apply List.ext_getElem (by rw [h, mixR_len])
  intro i h1 h2
  have hi : i < 256 := by omega
  rw [← getD_get h1, mixR_get hi, mixB_15 hi, getD_get h2]
theorem crash_all : ∀ {F : List (List Int)} {ws : List (Int × List Int)} {n : Nat} {m : Int}, (∀ p ∈ ws, 0 ≤ p.1 ∧ p.1 < m ∧ Row p.2) → ws.length ≤ n → crashF F ws (List.replicate n 15) = allW F ws
  | F, [], n, m, _, _ => by cases n <;> rfl
  | F, p :: ws, 0, m, _, h => by simp at h
  | F, p :: ws, n + 1, m, hw, h => by
    rw [List.replicate_succ, crashF, mixR_15 (hw p List.mem_cons_self).2.2.1, crash_all (fun q hq => hw q (List.mem_cons_of_mem _ hq)) (by simpa using h)]
    rfl
theorem allW_write {D : DS} (h : allW D.firm D.waits = D.now) (z : Int) (r : List Int) : allW (wrD D z r).firm (wrD D z r).waits = (wrD D z r).now := by
  simp only [wrD, writeD, allW, List.foldl_append, List.foldl_cons, List.foldl_nil]
  unfold allW at h; rw [h]
end Go.V.Dk
namespace Go.Proofs.Ytdgebnphgfbegaa
open Go.V Go.V.Dk
section
variable {w : World} {d : Dev} {D : DS}
/-- A law's write of a whole block of one byte. -/
theorem calmWrite {j bl : Nat} {op : OpV} {G : (World → Prop) → Int → World → Prop} (r : DiskR w.heap d D) (c : CalmD j D) (hj : j ≤ 1000) (hbl : w.heap[bl]? = some (.cells op.c.toArray 32 (0, 0))) (nbl : ¬ d.fp bl)
    (k : ∀ d' w', DiskR w'.heap d' (wrD D (bitI .and .i64 op.i 7) (rowOf (op.at_ % 256))) → Grow w d d' → Ext d.fp w w' → G (Ext d.fp w) 0 w') :
    ∃ S : World → Prop, S (drewW w) ∧
    ∃ vv : Int, Held S ((Addr.mk bl 0 none).add 1) (.int .i64 vv) ∧
    Nm (bitI .and .i64 vv 7) fun z =>
    ∃ vv_1 : Int, Held S ((Addr.mk bl 0 none).add 2) (.int .i64 vv_1) ∧
    Ar .u8 vv_1 fun z_1 =>
    C_law08_full z_1 (drewW w) fun r_1 w7 =>
    S w7 ∧
    C_disk_Disk_Write d.p z r_1 w7 fun r_2 w8 =>
    S w8 ∧ G S r_2 w8 := by
  refine ⟨Ext d.fp w, (Ext.refl _ _).drew, op.i, Held.but (Cell.lst hbl rfl) nbl, Nm.mk ⟨op.at_, Held.but (Cell.lst hbl rfl) nbl, Ar.u8m (full_spec fun s1 w1 o1 x1 => ⟨x1.drew_left.of_no, ?_⟩)⟩⟩
  have hz := bitI_and7 op.i
  have hrow := rowOf_row (x := op.at_ % 256) (by omega)
  have o1' : OwnB w1.heap w.heap.size s1 (rowOf (op.at_ % 256)) := o1
  have x1' := x1.drew_left
  have hs := c.steps
  have hw := c.waits
  refine diskWrite_spec (r.no x1') o1'.rd hrow.2 (fun i hi h => ?_) (by omega) (by omega) fun d' w' r' g' x' => ?_
  · have := (o1'.lt hi).1; have := r.lt h; omega
  · rw [c.writeR hz hrow.1] at r' ⊢
    have hx : Ext d.fp w w' := (x1'.of_no (S := d.fp)).trans x' fun _ _ h => h
    refine ⟨hx, k d' w' r' ⟨g'.b, fun i hi => ?_⟩ hx⟩
    have := x1'.size
    rcases g'.fp i hi with h | h
    · exact .inl h
    · exact .inr (by omega)
theorem diskFirm_all {i : Int} {K : Sl → Int → World → Prop} (r : DiskR w.heap d D) (hh : Dk.hasB D i = true)
    (k : ∀ s w', RdB w'.heap s (D.firm.getD i.toNat []) → Ext No w w' → K s 0 w') : C_disk_Disk_Firm d.p i w K :=
  diskFirm_spec r (fun h => by rw [hh] at h; cases h) fun _ s w' o x => k s w' o.rd x
/-- A slice is filled with one byte. -/
theorem fillLoop {base : Nat} {s : Sl} {l0 : List Int} {x : Int} {G : World → Prop} (o : OwnB w.heap base s l0) (hlen : s.len ≤ 9223372036854775806) (k : ∀ w', OwnB w'.heap base s (List.replicate l0.length x) → Ext (fun i => s.blk = some i) w w' → G w') :
    ∃ I0 : Nat → Int → World → Prop, (∃ m, I0 m 0 w) ∧ ∀ (_ : Env) (m0 : Nat) (t : Int) (w2 : World), I0 m0 t w2 → If (decide (t < ((s.len : Int)))) (Ix s.a s.len t 1 fun a => St1 w2 a (.int .u8 x) fun w3 => Ar .i64 (t + 1) fun z => ∃ m1, m1 < m0 ∧ I0 m1 z w3) (G w2) := by
  have hl := OwnB.len o
  refine ⟨fun m t w' => ∃ j : Nat, t = j ∧ m = l0.length - j ∧ j ≤ l0.length ∧ OwnB w'.heap base s (List.replicate j x ++ l0.drop j) ∧ Ext (fun i => s.blk = some i) w w', ⟨_, 0, rfl, rfl, Nat.zero_le _, by simpa using o, Ext.refl _ _⟩, ?_⟩
  rintro _ m t w2 ⟨j, rfl, rfl, hj, own, ext⟩
  refine If.dec (fun hlt => ?_) (fun hge => ?_)
  · have hj' : j < l0.length := by omega
    refine St1.own own (by omega) hlt rfl fun w3 o3 ext3 _ => Ar.i64 (by omega) ⟨_, ?_, j + 1, by omega, rfl, by omega, ?_, ext.trans ext3 fun i hi h => h⟩
    · omega
    · have e : ((List.replicate j x ++ l0.drop j).map (Value.int .u8)).set (j : Int).toNat (.int .u8 x) = (List.replicate (j + 1) x ++ l0.drop (j + 1)).map (Value.int .u8) := by
        rw [Int.toNat_natCast, ← List.map_set, List.set_append_right _ _ (by simp), List.length_replicate, Nat.sub_self, drop_cons hj', List.set_cons_zero, List.replicate_succ' (n := j)]
        simp
      rw [e] at o3; exact o3
  · have : j = l0.length := by omega
    subst this
    refine k w2 ?_ ext
    simpa using own
end
end Go.Proofs.Ytdgebnphgfbegaa
