/- Layer 8: a call played on both devices; the law DiskPlays. -/
import Derived.Test.YtdgebnphgfbegaaDiskO
namespace Go.V.Dk
open Go.V
theorem step_now (D : DS) : (stepD D).2.now.length = D.now.length := by rw [(step_same D).1]
/-- A call changes little. -/
structure Little (D D' : DS) : Prop where
  n : D'.now.length = D.now.length
  st : D.steps ≤ D'.steps ∧ D'.steps ≤ D.steps + 1
  wt : D'.waits.length ≤ D.waits.length + 1
theorem Little.refl (D : DS) : Little D D := ⟨rfl, by omega, by omega⟩
theorem step_little (D : DS) : Little D (stepD D).2 := by
  have h := step_same D
  refine ⟨by rw [h.1], ?_, by rw [h.2.2]; omega⟩
  unfold stepD; split
  · simp only; omega
  · split <;> simp only <;> omega
theorem write_little (D : DS) (i : Int) (bs : List Int) : Little D (writeR D i bs).2 := by
  have h := step_little D
  unfold writeR
  split
  · split
    · refine ⟨by simp only [writeD, List.length_set]; exact h.n, h.st, ?_⟩
      have := (step_same D).2.2
      simp only [writeD, List.length_append, List.length_singleton]; rw [this]; omega
    · exact h
  · exact Little.refl D
theorem sync_little (D : DS) : Little D (syncR D).2 := by
  have h := step_little D
  unfold syncR
  split
  · exact ⟨h.n, h.st, by simp [syncD]⟩
  · exact h
theorem crash_little {D : DS} (h : D.firm.length = D.now.length) (ms : List Int) : Little D (crashD D ms) := by
  have := crashF_len D.firm D.waits ms
  exact ⟨by simp only [crashD]; omega, by simp only [crashD]; omega, by simp [crashD]⟩
theorem foreign_little (D : DS) (i : Int) (a : Nat) (bs : List Int) : Little D (foreignD D i a bs) := ⟨by simp [foreignD], by simp only [foreignD]; omega, by simp only [foreignD]; omega⟩
end Go.V.Dk
namespace Go.Proofs.Ytdgebnphgfbegaa
open Go.V Go.V.Dk
section
variable {w w' : World}
theorem Wr.nil (h : Array Obj) : Wr h ⟨none, 0, 0⟩ [] := ⟨rfl, Nat.le_refl _, fun h => absurd rfl h, by simp⟩
/-- Bytes are turned over. -/
theorem xorLoop {s : Sl} {l : List Int} {G : World → Prop} (r : Wr w.heap s (l.map (Value.int .u8))) (hlen : s.len ≤ 9223372036854775806) (k : ∀ w', Ext (fun i => s.blk = some i) w w' → G w') :
    ∃ I0 : Nat → Int → World → Prop, (∃ m, I0 m 0 w) ∧ ∀ (_ : Env) (m0 : Nat) (t : Int) (w7 : World), I0 m0 t w7 → If (decide (t < ((s.len : Int)))) (Ix s.a s.len t 1 fun a => ∃ vv : Int, Cell w7 a (.int .u8 vv) ∧
      Nm (bitI .xor .u8 vv 255) fun z => Ix s.a s.len t 1 fun a_1 => St1 w7 a_1 (.int .u8 z) fun w8 => Ar .i64 (t + 1) fun z_1 => ∃ m1, m1 < m0 ∧ I0 m1 z_1 w8) (G w7) := by
  refine ⟨fun m t w7 => ∃ (j : Nat) (l : List Int), t = j ∧ m = s.len - j ∧ j ≤ s.len ∧ Wr w7.heap s (l.map (Value.int .u8)) ∧ Ext (fun i => s.blk = some i) w w7, ⟨_, 0, l, rfl, rfl, Nat.zero_le _, r, Ext.refl _ _⟩, ?_⟩
  rintro _ m t w7 ⟨j, l, rfl, rfl, hj, r7, x7⟩
  refine If.dec (fun hlt => ?_) (fun _ => k w7 x7)
  refine Ix.int r7.rd (by omega) hlt fun b o hb hc => ⟨_, hc, Nm.mk (St1.wr r7 (by omega) hlt rfl fun w8 r8 x8 z8 => ?_)⟩
  rw [← List.map_set] at r8
  exact Ar.i64 (by omega) ⟨s.len - (j + 1), by omega, j + 1, _, by omega, rfl, by omega, r8, x7.trans x8 fun _ _ h => h⟩
/-- Both devices hold the same. -/
structure Pair (h : Array Obj) (d : Dev) (T : Tg) (r : Dev) (D : DS) : Prop where
  q : DiskR h d D
  r : RefR h T r D
  dis : ∀ i, d.fp i → T i = none
structure Next (w : World) (d : Dev) (T : Tg) (r : Dev) (D : DS) (w' : World) (d' : Dev) (T' : Tg) (r' : Dev) (D' : DS) : Prop where
  p : Pair w'.heap d' T' r' D'
  rb : r'.b = r.b
  gd : ∀ i, d'.fp i → d.fp i ∨ w.heap.size ≤ i
  gt : ∀ i, T' i ≠ none → T i ≠ none ∨ w.heap.size ≤ i
  x : Ext (fun i => d.fp i ∨ T i ≠ none) w w'
  l : Little D D'
variable {d d' : Dev} {T T' : Tg} {r r' : Dev} {D D' : DS}
theorem Pair.no (p : Pair w.heap d T r D) (x : Ext No w w') : Pair w'.heap d T r D := ⟨p.q.no x, p.r.no x, p.dis⟩
theorem Pair.next (p : Pair w.heap d T r D) : Next w d T r D w d T r D := ⟨p, rfl, fun _ h => .inl h, fun _ h => .inl h, Ext.refl _ _, Little.refl _⟩
/-- What came before was new. -/
theorem Next.pre {w0 : World} (n : Next w d T r D w' d' T' r' D') (x : Ext No w0 w) : Next w0 d T r D w' d' T' r' D' := by
  have := x.size
  exact ⟨n.p, n.rb, fun i hi => (n.gd i hi).imp id fun h => by omega, fun i hi => (n.gt i hi).imp id fun h => by omega, x.of_no.trans n.x fun _ _ h => h, n.l⟩
/-- What comes behind touches neither. -/
theorem Next.post {w2 : World} {S : Nat → Prop} (n : Next w d T r D w' d' T' r' D') (x : Ext S w' w2) (hS : ∀ i, i < w'.heap.size → S i → w.heap.size ≤ i ∧ ¬ d'.fp i ∧ T' i = none) : Next w d T r D w2 d' T' r' D' := by
  have hd : ∀ i, d'.fp i → ¬ S i := fun i hi h => (hS i (n.p.q.lt hi) h).2.1 hi
  have ht : ∀ i, T' i ≠ none → ¬ S i := fun i hi h => hi (hS i (n.p.r.old i hi) h).2.2
  refine ⟨⟨n.p.q.ext x hd, n.p.r.ext x ht, n.p.dis⟩, n.rb, n.gd, n.gt, n.x.trans x fun i hi h => ?_, n.l⟩
  have := hS i (by have := n.x.size; omega) h
  omega
theorem Next.no {w2 : World} (n : Next w d T r D w' d' T' r' D') (x : Ext No w' w2) : Next w d T r D w2 d' T' r' D' := n.post x fun _ _ h => h.elim
/-- First the one, then the other. -/
theorem Pair.both {w1 w2 : World} (p : Pair w.heap d T r D) (q1 : DiskR w1.heap d' D') (gd : ∀ i, d'.fp i → d.fp i ∨ w.heap.size ≤ i) (x1 : Ext d.fp w w1) (r2 : RefR w2.heap T' r' D') (g2 : GrowT w1 T T' r r') (x2 : Ext (fun b => T b ≠ none) w1 w2) (l : Little D D') :
    Next w d T r D w2 d' T' r' D' := by
  have s1 := x1.size
  have hd : ∀ i, d'.fp i → T i = none := fun i hi => Classical.byContradiction fun h => by
    rcases gd i hi with h' | h'
    · exact h (p.dis i h')
    · have := p.r.old i h; omega
  refine ⟨⟨q1.ext x2 fun i hi h => h (hd i hi), r2, fun i hi => Classical.byContradiction fun h => ?_⟩, g2.b, gd, fun i h => (g2.t i h).imp id fun h => by omega, (x1.mono fun i _ h => .inl h).trans (x2.mono fun i _ h => .inr h) fun i _ h => h, l⟩
  rcases g2.t i h with h' | h'
  · exact h' (hd i hi)
  · have := q1.lt hi; omega
/-- First the other, then the one. -/
theorem Pair.both' {w1 w2 : World} (p : Pair w.heap d T r D) (r1 : RefR w1.heap T' r' D') (g1 : GrowT w T T' r r') (x1 : Ext (fun b => T b ≠ none) w w1) (q2 : DiskR w2.heap d' D') (gd : ∀ i, d'.fp i → d.fp i ∨ w1.heap.size ≤ i) (x2 : Ext d.fp w1 w2) (l : Little D D') :
    Next w d T r D w2 d' T' r' D' := by
  have s1 := x1.size
  have hd : ∀ i, T' i ≠ none → ¬ d.fp i := fun i hi h => by
    rcases g1.t i hi with h' | h'
    · exact h' (p.dis i h)
    · have := p.q.lt h; omega
  refine ⟨⟨q2, r1.ext x2 hd, fun i hi => Classical.byContradiction fun h => ?_⟩, g1.b, fun i h => (gd i h).imp id fun h => by omega, g1.t, (x1.mono fun i _ h => .inr h).trans (x2.mono fun i _ h => .inl h) fun i _ h => h, l⟩
  rcases gd i hi with h' | h'
  · exact hd i h h'
  · have := r1.old i h; omega
/-- All questions about a block. -/
theorem doesAsk {bl : Nat} {op : OpV} {K : Option Addr → Bool → World → Prop} (p : Pair w.heap d T r D) (hbl : w.heap[bl]? = some (.cells op.c.toArray 32 (0, 0)))
    (k : ∀ w', Ext No w w' → K d.p true w') :
    ∃ vv_26 : Int, Cell w ((Addr.mk bl 0 none).add 1) (.int .i64 vv_26) ∧
    C_disk_Disk_Firm d.p vv_26 w fun r0_3 r1_3 w38 =>
    ∃ vv_27 : Int, Cell w38 ((Addr.mk bl 0 none).add 1) (.int .i64 vv_27) ∧
    C_ref08_Disk_Has r.p vv_27 w38 fun r_22 w39 =>
    If (!r_22) (
    If (((r0_3.len : Int)) == 0) (
    K d.p (r1_3 == 2) w39) (
    K d.p false w39)) (
    ∃ S : World → Prop, S (drewW w39) ∧
    If (r1_3 == 0) (
    Nn r.p fun a_6 =>
    ∃ vv_28 : Sl, Held S (a_6.add 1) (.slice vv_28.a vv_28.len vv_28.cap) ∧
    ∃ vv_29 : Int, Held S ((Addr.mk bl 0 none).add 1) (.int .i64 vv_29) ∧
    Ix vv_28.a vv_28.len vv_29 1 fun a_7 =>
    ∃ vv_30 : Sl, Held S a_7 (.slice vv_30.a vv_30.len vv_30.cap) ∧
    C_ref01_Same r0_3 vv_30 (drewW w39) fun r_23 w40 =>
    S w40 ∧
    K d.p r_23 w40) (
    K d.p false ((drewW w39)))) := by
  refine ⟨op.i, Cell.lst hbl rfl, diskFirm_spec p.q (fun h => ?_) fun h s w1 o1 x1 => ?_⟩
  · refine ⟨op.i, Cell.lst hbl rfl, refHas_spec p.r ?_⟩
    rw [h]
    exact If.not (If.no (If.beq (fun _ => k w (Ext.refl _ _)) fun h => absurd rfl h))
  · have hbl1 : w1.heap[bl]? = some (.cells op.c.toArray 32 (0, 0)) := by rw [x1.blk _ (blt hbl) id]; exact hbl
    have r1 := p.r.no x1
    have hi : 0 ≤ op.i ∧ op.i < D.now.length := by simpa [hasB] using h
    have hn := p.r.wf.n
    have lf := r1.firm.len
    refine ⟨op.i, Cell.lst hbl1 rfl, refHas_spec r1 ?_⟩
    rw [h]
    refine If.not (If.yes ⟨Ext No w1, (Ext.refl _ _).drew, If.beq (fun _ => Nn.mk ⟨r.sf, Held.cell (Cell.lst r1.blk rfl), op.i, Held.cell (Cell.lst hbl1 rfl), r1.firm.ix (by decide) hi.1 (by omega) fun b o v hi' hb hc ov _ _ => ⟨v, Held.cell hc, ?_⟩⟩) fun h => absurd rfl h⟩)
    have e := getD_eq hi'
    have hr := p.r.wf.rf _ (List.getElem_mem hi')
    have rd1 : RdB w1.heap s (D.firm.getD op.i.toNat []) := o1.rd
    rw [e] at rd1
    refine same_spec (w := drewW w1) rd1 ov.rd hr.2 hr.2 ?_
    rw [decide_eq_true rfl]
    exact ⟨(Ext.refl _ _).drew, k _ x1.drew⟩
set_option maxHeartbeats 2000000 in
theorem does_spec {op : OpV} {K : Option Addr → Bool → World → Prop} (p : Pair w.heap d T r D) (ok : op.okS w.heap) (hob : op.bs ≠ [] → ∀ i, op.b.blk = some i → ¬ d.fp i ∧ T i = none) (hom : op.ms ≠ [] → ∀ i, op.masks.blk = some i → ¬ d.fp i ∧ T i = none)
    (hs : 0 ≤ D.steps ∧ D.steps < 9223372036854775807) (hw : D.waits.length < 4294967296)
    (k : ∀ d' T' r' D' w', Next w d T r D w' d' T' r' D' → (op.kind ≠ 9 → d'.b = d.b) → K d'.p true w') : C_law08_Does d.p r.p op.kind op.i op.at_ op.b op.masks w K := by
  apply S_law08_Does
  intro bl w1 n1
  have hbl : w1.heap[bl]? = some (.cells op.c.toArray 32 (0, 0)) := n1.get
  have abl := n1.at_
  have z1 := n1.size
  have p1 := p.no n1.ext
  have nbd : ¬ d.fp bl := fun h => by have := p.q.lt h; omega
  have nbt : T bl = none := Classical.byContradiction fun h => by have := p.r.old bl h; omega
  have lb := ok.lb
  have lm := ok.lm
  have lbs := RdB.len ok.rb
  have lms := RdB.len ok.rm
  have ok1b := ok.rb.no n1.ext
  have ok1m := ok.rm.no n1.ext
  have keep : ∀ {w' : World} {S : Nat → Prop}, Ext S w1 w' → ¬ S bl → w'.heap[bl]? = some (.cells op.c.toArray 32 (0, 0)) := fun x h => by rw [x.blk _ (blt hbl) h]; exact hbl
  have pd : ∀ {d' : Dev}, d'.b = d.b → d.p = d'.p := fun h => by simp [Dev.p, h]
  refine ⟨fun w37 => ∃ T' D', Next w d T r D w37 d T' r D' ∧ w37.heap[bl]? = some (.cells op.c.toArray 32 (0, 0)), ?_, ?_⟩
  rotate_left
  · rintro _ w37 ⟨T', D', n, hbl'⟩
    exact doesAsk n.p hbl' fun w' x => k d T' r D' w' (n.no x) fun _ => rfl
  refine ⟨op.kind, Cell.lst hbl rfl, If.beq (fun hk => ?_) (fun _ => If.beq (fun hk => ?_) (fun _ => If.beq (fun hk => ?_) (fun _ => If.beq (fun hk => ?_) (fun _ => If.beq (fun hk => ?_) (fun _ => If.beq (fun hk => ?_) (fun _ => If.beq (fun hk => ?_) (fun _ => If.beq (fun hk => ?_) (fun _ => If.beq (fun hk => ?_) (fun _ => If.beq (fun hk => ?_) (fun _ => ?_))))))))))⟩
  · -- Write
    refine ⟨op.b, Cell.lst hbl rfl, copy_spec ok1b (by omega) fun v w2 o2 x2 => ?_⟩
    have z2 := x2.size
    have p2 := p1.no x2
    refine ⟨op.i, Cell.lst (keep x2 id) rfl, diskWrite_spec p2.q o2.rd ok.b8 (fun i hi h => ?_) (by omega) (by omega) fun d3 w3 q3 g3 x3 => ?_⟩
    · have := (o2.lt hi).1; have := p1.q.lt h; omega
    have hbl3 := keep (x2.of_no.trans x3 (S := d.fp) fun _ _ h => h) nbd
    have rd3 : RdB w3.heap op.b op.bs := Rd.extN (ok1b.no x2) x3 fun hne a c ha hc h => (hob (by simpa using hne) c (by simp [Sl.blk, ha, hc])).1 h
    have v3 : RdB w3.heap v op.bs := o2.rd.ext x3 fun a c ha hc h => by have := (o2.lt (b := c) (by simp [Sl.blk, ha, hc])).1; have := p1.q.lt h; omega
    have z3 := x3.size
    refine ⟨fun okv w6 => okv = true ∧ ∃ T' r', Next w2 d T r D w6 d3 T' r' (writeR D op.i op.bs).2, ⟨op.b, Cell.lst hbl3 rfl, same_spec v3 rd3 ok.b8 ok.b8 ?_⟩, ?_⟩
    · rw [decide_eq_true rfl]
      refine If.yes ⟨op.i, Cell.lst hbl3 rfl, op.b, Cell.lst hbl3 rfl, refWrite_spec (p2.r.ext x3 fun i hi h => hi (p.dis i h)) rd3 ok.b8 (fun hne i hi => (hob hne i hi).2) (by omega) (by omega) fun T5 r5 w5 q5 g5 x5 => ⟨by simp, T5, r5, ?_⟩⟩
      exact p2.both q3 g3.fp x3 q5 g5 x5 (write_little _ _ _)
    · rintro _ _ w6 ⟨rfl, T6, r6, n6⟩
      have o6 : OwnB w6.heap w1.heap.size v op.bs := by
        refine o2.ext n6.x fun i hi h => ?_
        have h1 := (o2.lt hi).1
        rcases h with h | h
        · have := p1.q.lt h; omega
        · have := p1.r.old i h; omega
      refine xorLoop o6.wr (by rw [OwnB.len o6]; omega) fun w7 x7 => ?_
      rw [pd g3.b]
      refine k d3 T6 r6 _ w7 ((n6.pre (n1.ext.no x2)).post x7 fun i _ hi => ?_) fun _ => g3.b
      have h1 := o2.lt hi
      refine ⟨by omega, fun h => ?_, Classical.byContradiction fun h => ?_⟩
      · rcases n6.gd i h with h | h
        · have := p1.q.lt h; omega
        · omega
      · rcases n6.gt i h with h | h
        · have := p1.r.old i h; omega
        · omega
  · -- Fill
    have nS : ¬ (d.fp bl ∨ T bl ≠ none) := fun h => h.elim nbd fun h => h nbt
    refine ⟨Ext (fun i => d.fp i ∨ T i ≠ none) w1, (Ext.refl _ _).drew, op.i, Held.but (Cell.lst hbl rfl) nS, op.at_, Held.but (Cell.lst hbl rfl) nS, Ar.u8m ⟨op.i, Held.but (Cell.lst hbl rfl) nS, op.at_, Held.but (Cell.lst hbl rfl) nS, Ar.u8m (full_spec fun s2 w2 o2 x2 => ⟨x2.drew_left.of_no, ?_⟩)⟩⟩
    have hrow := rowOf_row (x := op.at_ % 256) (by omega)
    have o2' : OwnB w2.heap w1.heap.size s2 (rowOf (op.at_ % 256)) := o2
    have x2 := x2.drew_left
    have z2 := x2.size
    have p2 := p1.no x2
    refine diskWrite_spec p2.q o2'.rd hrow.2 (fun i hi h => ?_) (by omega) (by omega) fun d3 w3 q3 g3 x3 => ?_
    · have := (o2'.lt hi).1; have := p1.q.lt h; omega
    have x13 : Ext (fun i => d.fp i ∨ T i ≠ none) w1 w3 := x2.of_no.trans (x3.mono fun i _ h => .inl h) fun _ _ h => h
    refine ⟨x13, full_spec fun s4 w4 o4 x4 => ⟨x13.no x4, ?_⟩⟩
    have o4' : OwnB w4.heap w3.heap.size s4 (rowOf (op.at_ % 256)) := o4
    have z3 := x3.size
    have r4 := (p2.r.ext x3 fun i hi h => hi (p.dis i h)).no x4
    refine refWrite_spec r4 o4'.rd hrow.2 (fun _ i hi => Classical.byContradiction fun h => ?_) (by omega) (by omega) fun T5 r5 w5 q5 g5 x5 => ?_
    · have := (o4'.lt hi).1; have := p1.r.old i h; omega
    have n5 := p2.both (q3.no x4) g3.fp (x3.no x4) q5 g5 x5 (write_little _ _ _)
    have e : ((writeR D op.i (rowOf (op.at_ % 256))).1 == (writeR D op.i (rowOf (op.at_ % 256))).1) = true := by simp
    refine ⟨x2.of_no.trans n5.x fun _ _ h => h, ?_⟩
    rw [e, pd g3.b]
    exact k d3 T5 r5 _ w5 (n5.pre (n1.ext.no x2)) fun _ => g3.b
  · -- Read
    have fin : ∀ {s : Sl} {l : List Int} {c : Int} {w2 : World}, Wr w2.heap s (l.map (Value.int .u8)) → l.length ≤ 256 → B8 l → (∀ i, s.blk = some i → w1.heap.size ≤ i) → Ext No w1 w2 →
        (∀ {K2 : Sl → Int → World → Prop}, (∀ s' w', RdB w'.heap s' l → Ext No w2 w' → K2 s' c w') → C_ref08_Disk_Read r.p op.i w2 K2) → ∃ vv_12 : Int, Cell w2 ((Addr.mk bl 0 none).add 1) (.int .i64 vv_12) ∧
        C_ref08_Disk_Read r.p vv_12 w2 fun r0_2 r1_2 w14 =>
        ∃ J1 : Bool → World → Prop, (
        C_ref01_Same s r0_2 w14 fun r_8 w15 =>
        If r_8 (
        J1 (c == r1_2) w15) (
        J1 false w15)) ∧ ∀ (_ : Env) (ok_1 : Bool) (w16 : World), J1 ok_1 w16 →
        ∃ I1 : Nat → Int → World → Prop, (∃ m, I1 m 0 w16) ∧ ∀ (_ : Env) (m0_1 : Nat) (t_1 : Int) (w17 : World), I1 m0_1 t_1 w17 →
        If (decide (t_1 < ((s.len : Int)))) (
        Ix s.a s.len t_1 1 fun a_2 =>
        ∃ vv_13 : Int, Cell w17 a_2 (.int .u8 vv_13) ∧
        Nm (bitI .xor .u8 vv_13 255) fun z_4 =>
        Ix s.a s.len t_1 1 fun a_3 =>
        St1 w17 a_3 (.int .u8 z_4) fun w18 =>
        Ar .i64 (t_1 + 1) fun z_5 =>
        ∃ m1_1, m1_1 < m0_1 ∧ I1 m1_1 z_5 w18) (
        K d.p ok_1 w17) := by
      intro s l c w2 wr hl h8 hnew x2 hread
      refine ⟨op.i, Cell.lst (keep x2 id) rfl, hread fun s' w3 rd3 x3 => ?_⟩
      have wr3 := wr.no x3
      refine ⟨fun okv w6 => okv = true ∧ w6 = w3, same_spec wr3.rd rd3 h8 h8 ?_, ?_⟩
      · rw [decide_eq_true rfl]
        exact If.yes ⟨by simp, rfl⟩
      · rintro _ _ w3 ⟨rfl, rfl⟩
        have hsl : s.len ≤ 256 := by have := wr.len; rw [List.length_map] at this; omega
        refine xorLoop wr3 (by omega) fun w7 x7 => k d T r D w7 (((p.next).no (n1.ext.no (x2.no x3))).post x7 fun i _ hi => ?_) fun _ => rfl
        have h1 := hnew i hi
        refine ⟨by omega, fun h => ?_, Classical.byContradiction fun h => ?_⟩
        · have := p.q.lt h; omega
        · have := p.r.old i h; omega
    refine ⟨op.i, Cell.lst hbl rfl, diskRead_spec p1.q (fun h => ?_) (fun h hd => ?_) fun h hd s w2 o2 x2 => ?_⟩
    · exact fin (l := []) (Wr.nil _) (by simp) B8.nil (fun i hi => by simp [Sl.blk] at hi) (Ext.refl _ _) fun kk => refRead_spec p1.r (fun _ => kk _ _ (Rd.nil _ _) (Ext.refl _ _)) (fun h' => by rw [h] at h'; cases h') fun h' => by rw [h] at h'; cases h'
    · exact fin (l := []) (Wr.nil _) (by simp) B8.nil (fun i hi => by simp [Sl.blk] at hi) (Ext.refl _ _) fun kk => refRead_spec p1.r (fun h' => by rw [h] at h'; cases h') (fun _ _ => kk _ _ (Rd.nil _ _) (Ext.refl _ _)) fun _ h' => by rw [hd] at h'; cases h'
    · have hi : 0 ≤ op.i ∧ op.i < D.now.length := by simpa [hasB] using h
      have hr := getD_row p.q.wf.rn (show op.i.toNat < D.now.length by omega)
      refine fin (l := D.now.getD op.i.toNat []) (Own.wr o2) (by rw [hr.1]; exact Nat.le_refl _) hr.2 (fun i hi => (o2.lt hi).1) x2 fun kk => refRead_spec (p1.r.no x2) (fun h' => by rw [h] at h'; cases h') (fun _ h' => by rw [hd] at h'; cases h') fun _ _ s' w' o' x' => kk s' w' o'.rd x'
  · -- Sync
    refine diskSync_spec p1.q (by omega) fun d3 w3 q3 g3 x3 => refSync_spec (p1.r.ext x3 fun i hi h => hi (p.dis i h)) (by omega) fun T5 r5 w5 q5 g5 x5 => ?_
    have n5 := p1.both q3 g3.fp x3 q5 g5 x5 (sync_little _)
    have e : ((syncR D).1 == (syncR D).1) = true := by simp
    rw [e, pd g3.b]
    exact k d3 T5 r5 _ w5 (n5.pre n1.ext) fun _ => g3.b
  · -- Step
    refine diskStep_spec p1.q (by omega) fun w3 q3 x3 z3 => ?_
    have r3 := p1.r.ext x3 fun i hi h => hi (p.dis i (.inl h))
    refine refStep_spec r3 (by omega) fun w5 q5 x5 z5 => ?_
    have n5 := p1.both q3 (fun i hi => .inl hi) (x3.mono fun _ _ h => .inl h) q5 (GrowT.refl _ _ _) (r3.ext0 x5) (step_little _)
    have e : ((stepD D).1 == (stepD D).1) = true := by simp
    rw [e]
    exact k d T r _ w5 (n5.pre n1.ext) fun _ => rfl
  · -- Fail
    refine ⟨op.i, Cell.lst hbl rfl, diskFail_spec p1.q ok.i.2 fun w3 q3 x3 => ?_⟩
    have r3 := p1.r.ext x3 fun i hi h => hi (p.dis i (.inl h))
    have e : iMax op.i 0 = max op.i 0 := by unfold iMax; omega
    refine ⟨op.i, Cell.lst (keep x3 fun h => nbd (.inl h)) rfl, Nm.as e (Nn.mk (St1.mk r3.blk (by simp) rfl fun w5 hw5 => ?_))⟩
    have q5 : RefR w5.heap T r { D with fail := max op.i 0 } := r3.scal (fl := max op.i 0) hw5 q3.wf
    have n5 := p1.both q3 (fun i hi => .inl hi) (x3.mono fun _ _ h => .inl h) q5 (GrowT.refl _ _ _) (r3.ext0 hw5.ext) ⟨rfl, by simp only; omega, by simp only; omega⟩
    refine ⟨T, _, n5.pre n1.ext, ?_⟩
    have := hw5.ext.blk bl (by have := x3.size; have := blt hbl; omega) (fun h => by
      have h' : bl = r.b := h
      rw [h', p.r.hb] at nbt; cases nbt)
    rw [this]; exact keep x3 fun h => nbd (.inl h)
  · -- Cut
    refine ⟨op.i, Cell.lst hbl rfl, diskCut_spec p1.q ok.i.2 fun w3 q3 x3 => ?_⟩
    have r3 := p1.r.ext x3 fun i hi h => hi (p.dis i (.inl h))
    have e : iMax op.i (-1) = max op.i (-1) := by unfold iMax; omega
    refine ⟨op.i, Cell.lst (keep x3 fun h => nbd (.inl h)) rfl, Nm.as e (Nn.mk (St1.mk r3.blk (by simp) rfl fun w5 hw5 => ?_))⟩
    have q5 : RefR w5.heap T r { D with cut := max op.i (-1) } := r3.scal (ct := max op.i (-1)) hw5 q3.wf
    have n5 := p1.both q3 (fun i hi => .inl hi) (x3.mono fun _ _ h => .inl h) q5 (GrowT.refl _ _ _) (r3.ext0 hw5.ext) ⟨rfl, by simp only; omega, by simp only; omega⟩
    refine ⟨T, _, n5.pre n1.ext, ?_⟩
    have := hw5.ext.blk bl (by have := x3.size; have := blt hbl; omega) (fun h => by
      have h' : bl = r.b := h
      rw [h', p.r.hb] at nbt; cases nbt)
    rw [this]; exact keep x3 fun h => nbd (.inl h)
  · -- Crash
    refine ⟨op.masks, Cell.lst hbl rfl, refCrash_spec p1.r ok1m ok.m8 (fun hne i hi => (hom hne i hi).2) (by omega) fun T3 r3 w3 q3 g3 x3 => ?_⟩
    have m3 : RdB w3.heap op.masks op.ms := Rd.extN ok1m x3 fun hne a c ha hc h => h (hom (by simpa using hne) c (by simp [Sl.blk, ha, hc])).2
    refine ⟨op.masks, Cell.lst (keep x3 fun h => h nbt) rfl, diskCrash_spec (p1.q.ext x3 fun i hi h => h (p.dis i hi)) m3 ok.m8 (fun hne i hi => (hom hne i hi).1) (by omega) fun d5 w5 q5 g5 x5 => ?_⟩
    have n5 := p1.both' q3 g3 x3 q5 g5.fp x5 (crash_little p.q.wf.n _)
    rw [pd g5.b]
    exact k d5 T3 r3 _ w5 (n5.pre n1.ext) fun _ => g5.b
  · -- Foreign
    have nS : ¬ (d.fp bl ∨ T bl ≠ none) := fun h => h.elim nbd fun h => h nbt
    refine ⟨Ext (fun i => d.fp i ∨ T i ≠ none) w1, (Ext.refl _ _).drew, op.i, Held.but (Cell.lst hbl rfl) nS, op.at_, Held.but (Cell.lst hbl rfl) nS, op.b, Held.but (Cell.lst hbl rfl) nS, op.i, Held.but (Cell.lst hbl rfl) nS, op.at_, Held.but (Cell.lst hbl rfl) nS, op.b, Held.but (Cell.lst hbl rfl) nS, copy_spec (w := drewW w1) ok1b (by omega) fun v w2 o2 x2 => ⟨x2.drew_left.of_no, ?_⟩⟩
    have o2' : OwnB w2.heap w1.heap.size v op.bs := o2
    have x2 := x2.drew_left
    have z2 := x2.size
    have p2 := p1.no x2
    refine diskForeign_spec p2.q o2'.rd ok.b8 (fun _ i hi h => ?_) ok.a (fun hno => ?_) fun hc w3 q3 x3 z3 => ?_
    · have := (o2'.lt hi).1; have := p1.q.lt h; omega
    · refine ⟨x2.of_no, refForeign_spec p2.r (ok1b.no x2) ok.b8 (fun hne i hi => (hob hne i hi).2) ok.a (fun _ => ⟨x2.of_no, ?_⟩) fun hc => absurd hc hno⟩
      exact k d T r D w2 (p.next.no (n1.ext.no x2)) fun _ => rfl
    · have x13 : Ext (fun i => d.fp i ∨ T i ≠ none) w1 w3 := x2.of_no.trans (x3.mono fun i _ h => .inl h) fun _ _ h => h
      have rd3 : RdB w3.heap op.b op.bs := Rd.extN (ok1b.no x2) x3 fun hne a c ha hc h => (hob (by simpa using hne) c (by simp [Sl.blk, ha, hc])).1 h
      refine ⟨x13, refForeign_spec (p2.r.ext x3 fun i hi h => hi (p.dis i h)) rd3 ok.b8 (fun hne i hi => (hob hne i hi).2) ok.a (fun hno => absurd hc hno) fun _ w5 q5 x5 => ?_⟩
      have n5 := p2.both q3 (fun i hi => .inl hi) x3 q5 (GrowT.refl _ _ _) x5 (foreign_little _ _ _ _)
      exact ⟨x2.of_no.trans n5.x fun _ _ h => h, k d T r _ w5 (n5.pre (n1.ext.no x2)) fun _ => rfl⟩
  · -- Fork
    refine diskFork_spec p1.q (by omega) fun d2 w2 q2 f2 x2 => ?_
    have p2 := p1.no x2
    refine diskCrash_spec p2.q (Rd.nil _ _) B8.nil (fun h => absurd rfl h) (by omega) fun d3 w3 q3 g3 x3 => full_spec fun s4 w4 o4 x4 => ?_
    have hl3 := crash_little p.q.wf.n []
    have z2 := x2.size
    have z3 := x3.size
    have z4 := x4.size
    have hrow := rowOf_row (x := 99) (by omega)
    have o4' : OwnB w4.heap w3.heap.size s4 (rowOf 99) := o4
    have q4 := q3.no x4
    have st3 := hl3.st
    have wt3 : (crashD D []).waits.length = 0 := by simp [crashD]
    rw [pd g3.b]
    refine diskWrite_spec q4 o4'.rd hrow.2 (fun i hi h => ?_) (by omega) (by omega) fun d5 w5 q5 g5 x5 => ?_
    · have := (o4'.lt hi).1; have := q3.lt h; omega
    have hl5 := (write_little (crashD D []) 0 (rowOf 99)).st
    rw [show d3.p = d5.p by simp [Dev.p, g5.b]]
    refine diskSync_spec q5 (by omega) fun d6 w6 q6 g6 x6 => ?_
    have z5 := x5.size
    have f3 : ∀ i, d3.fp i → d.fp i ∨ w2.heap.size ≤ i := g3.fp
    have f5 : ∀ i, d5.fp i → d.fp i ∨ w2.heap.size ≤ i := fun i hi => by
      rcases g5.fp i hi with h | h
      · exact f3 i h
      · right; omega
    have xx : Ext d.fp w2 w6 := ((x3.no x4).trans x5 fun i hi h => ?_).trans x6 fun i hi h => ?_
    · refine k d2 T r D w6 ⟨⟨q2.ext xx fun i hi h => ?_, p2.r.ext xx fun i hi h => hi (p.dis i h), fun i hi => Classical.byContradiction fun h => ?_⟩, rfl, fun i hi => .inr ?_, fun i h => .inl h, (n1.ext.no x2).of_no.trans (xx.mono fun i _ h => .inl h) fun _ _ h => h, Little.refl _⟩ fun h => absurd hk h
      · have := f2 i hi; have := p1.q.lt h; omega
      · have := f2 i hi; have := p1.r.old i h; omega
      · have := f2 i hi; omega
    · rcases f3 i h with h | h
      · exact h
      · omega
    · rcases f5 i h with h | h
      · exact h
      · omega
  · exact ⟨T, D, p.next.no n1.ext, hbl⟩
theorem heavy8_spec {l : Sl} {O : List OpV} {K : Bool → World → Prop} (hO : Rd w.heap l 5 (O.flatMap OpV.c)) (hlen : O.length = l.len) (ok : ∀ o ∈ O, o.b.len ≤ 140737488351232 ∧ o.masks.len ≤ 140737488351232)
    (kt : ∀ w', Ext No w w' → K true w') (k : ∀ w', Ext No w w' → O.length ≤ 4000 → K false w') : C_law08_heavy l w K := by
  apply S_law08_heavy
  refine ⟨fun m n t w2 => ∃ j : Nat, t = j ∧ m = O.length - j ∧ j ≤ O.length ∧ Ext No w w2 ∧ (j : Int) ≤ n ∧ n ≤ 4000, ⟨_, 0, rfl, rfl, Nat.zero_le _, Ext.refl _ _, by omega, by omega⟩, ?_⟩
  rintro _ m2 n2 t2 w2 ⟨i, rfl, rfl, hi, x2, h2, h3⟩
  refine If.dec (fun hlt => ?_) (fun hge2 => k w2 x2 (by omega))
  have hi' : i < O.length := by omega
  refine ⟨Ext No w2, (Ext.refl _ _).drew, Ix.elem (hO.no x2) (fun o _ => rfl) (by decide) (by omega) hlt fun b o hi2 hb hc => ?_⟩
  have hok := ok _ (List.getElem_mem hi2)
  generalize O[((i : Int)).toNat] = op at hc hok
  have hd : Int.tdiv (op.b.len : Int) 64 = ((op.b.len / 64 : Nat) : Int) := by
    rw [Int.tdiv_eq_ediv_of_nonneg (by omega)]; omega
  refine ⟨op.b, Held.cell (hc 3 _ rfl), by decide, ?_⟩
  rw [hd]
  refine Ar.i64 (by omega) (Ar.i64 (by omega) (Ix.elem (hO.no x2) (fun o _ => rfl) (by decide) (by omega) hlt fun b' o' hi2' hb' hc' => ?_))
  have hok' := ok _ (List.getElem_mem hi2')
  generalize O[((i : Int)).toNat] = op' at hc' hok'
  refine ⟨op'.masks, Held.cell (hc' 4 _ rfl), ?_⟩
  exact Ar.i64 (by omega) (Ar.i64 (by omega) (If.dec (fun _ => kt _ x2.drew) fun hn => Ar.i64 (by omega) ⟨O.length - (i + 1), by omega, i + 1, by omega, rfl, by omega, x2.drew, by omega, by omega⟩))
theorem may_spec {n : Int} {K : Bool → World → Prop} (k : K (decide (8 ≤ n ∧ n ≤ 4096)) w) : C_ref08_May n w K := by
  apply S_ref08_May
  refine If.dec (fun h => ?_) (fun h => ?_)
  · have : decide (n ≤ 4096) = decide (8 ≤ n ∧ n ≤ 4096) := by rw [decide_eq_decide]; omega
    rw [this]; exact k
  · have : decide (8 ≤ n ∧ n ≤ 4096) = false := by simp; omega
    rw [this] at k; exact k
theorem OpV.okS.no {op : OpV} (ok : op.okS w.heap) (x : Ext No w w') : op.okS w'.heap := ⟨⟨ok.k, ok.i, ok.a, ok.rb.no x, ok.b8, ok.rm.no x, ok.m8⟩, ok.lb, ok.lm⟩
end
end Go.Proofs.Ytdgebnphgfbegaa
