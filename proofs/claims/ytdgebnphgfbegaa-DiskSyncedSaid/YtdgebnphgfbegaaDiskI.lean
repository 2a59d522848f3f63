/- Layer 8: the law DiskCalm. -/
import Derived.Test.YtdgebnphgfbegaaDiskH
namespace Go.Proofs.Ytdgebnphgfbegaa
open Go.V Go.V.Dk
theorem eqStr {A B : Prop} {l : List Int} (h : B) : If (!(ByteArray.toList ⟨(toB l).toArray⟩ == ByteArray.toList ⟨(toB l).toArray⟩)) A B := by
  rw [beq_self_eq_true]; exact h
set_option maxHeartbeats 1000000 in
theorem diskCalm_spec {l : Sl} {sync : Int} {w : World} {O : List OpV} (hO : Rd w.heap l 5 (O.flatMap OpV.c)) (hlen : O.length = l.len) : C_law08_DiskCalm l sync w fun b w' => b = true ∧ Ext No w w' := by
  apply S_law08_DiskCalm
  have kn : ∀ {w1 : World}, Ext No w w1 → C_law08_known w1 fun r w' => r = true ∧ Ext No w w' := fun x => known8_spec fun w' x' => ⟨rfl, x.no x'⟩
  refine If.dec (fun _ => kn (Ext.refl _ _)) (fun h60 => ?_)
  refine diskNew_spec (fun h => absurd (by omega) h) fun _ d w2 r2 fd x2 => ?_
  rw [show (8 : Int).toNat = 8 from rfl] at r2
  refine ⟨fun w' => w' = w2, If.no (If.bne (fun h => absurd rfl h) fun _ => rfl), ?_⟩
  rintro _ w2 rfl
  refine ⟨fun m t w6 => ∃ (j : Nat) (d' : Dev) (D : DS), t = j ∧ m = O.length - j ∧ j ≤ O.length ∧ d'.b = d.b ∧ (∀ i, d'.fp i → w.heap.size ≤ i) ∧ DiskR w6.heap d' D ∧ CalmD j D ∧ allW D.firm D.waits = D.now ∧ Ext No w w6,
    ⟨_, 0, d, newD 8, rfl, rfl, Nat.zero_le _, rfl, fd, r2, ⟨by simp [newD], rfl, rfl, rfl, by simp [newD], by simp [newD]⟩, rfl, x2⟩, ?_⟩
  rintro _ m t w4 ⟨j, d4, D, rfl, rfl, hj, hb4, fp4, r4, c4, e4, x4⟩
  have hp : d.p = d4.p := by simp [Dev.p, hb4]
  rw [hp]
  refine If.dec (fun hlt => ?_) (fun hge => ?_)
  · have hj' : j < O.length := by omega
    refine opAt (hO.no x4) (by omega) hlt fun hi bl w6 hbl hbl4 x6 => ?_
    generalize O[((j : Int)).toNat] = op at hbl
    have z6 := x6.size
    have z4 := x4.size
    have r6 := r4.no x6
    have nbl : ¬ d4.fp bl := fun h => by have := r4.lt h; omega
    refine calmWrite r6 c4 (by omega) hbl nbl fun d7 w7 r7 g7 x7 => If.bne (fun h => absurd rfl h) fun _ => ?_
    have x07 : Ext No w w7 := (x4.no x6).trans x7 fun i hi h => by have := fp4 i h; omega
    have z7 := x7.size
    have fp7 : ∀ i, d7.fp i → w.heap.size ≤ i := fun i hi => by
      rcases g7.fp i hi with h | h
      · exact fp4 i h
      · omega
    have c7 := c4.write (bitI .and .i64 op.i 7) (rowOf (op.at_ % 256))
    have c8 := c4.writeSync (bitI .and .i64 op.i 7) (rowOf (op.at_ % 256))
    have e7 := allW_write e4 (bitI .and .i64 op.i 7) (rowOf (op.at_ % 256))
    generalize wrD D (bitI .and .i64 op.i 7) (rowOf (op.at_ % 256)) = D7 at *
    have hp7 : d4.p = d7.p := by simp [Dev.p, g7.b]
    have hs7 := c7.steps
    refine If.beq (fun _ => ?_) (fun _ => Ar.i64 (by omega) ⟨_, ?_, j + 1, d7, D7, by omega, rfl, by omega, by rw [g7.b, hb4], fp7, r7, c7, e7, x07⟩)
    · rw [hp7]
      refine diskSync_spec r7 (by omega) fun d8 w8 r8 g8 x8 => ?_
      rw [c7.syncR] at r8 ⊢
      refine ⟨x7.trans x8 fun i hi h => ?_, If.bne (fun h => absurd rfl h) fun _ => Ar.i64 (by omega) ⟨_, ?_, j + 1, d8, _, by omega, rfl, by omega, by rw [g8.b, g7.b, hb4], fun i hi => ?_, r8, c8, rfl, x07.trans x8 fun i hi h => ?_⟩⟩
      · rcases g7.fp i h with h | h
        · exact h
        · omega
      · omega
      · rcases g8.fp i hi with h | h
        · exact fp7 i h
        · have := x07.size; omega
      · have := fp7 i h; omega
    · omega
  · have hjl : j = O.length := by omega
    subst hjl
    have hwf := r4.wf
    have hwt := c4.waits
    have hD : ∀ i : Int, 0 ≤ i → i < 8 → ∀ {D' : DS}, D'.now.length = 8 → Dk.hasB D' i = true := fun i h0 h1 D' hn => by unfold Dk.hasB; rw [hn]; simp; omega
    refine MkW.mk (by omega) (by omega) (by omega) (by omega) fun b10 w10 n10 => ?_
    have o10 := Own.make (l := ((l.len : Int)).toNat) (zs := [Value.int .u8 0]) n10 (Nat.le_refl _) (by simp [oneC])
    have e0 : (List.replicate ((l.len : Int)).toNat [Value.int .u8 0]).flatten = (List.replicate ((l.len : Int)).toNat (0 : Int)).map (Value.int .u8) := by
      rw [List.map_replicate]; exact List.flatten_replicate_singleton
    rw [e0] at o10
    have o10' : OwnB w10.heap w4.heap.size ⟨some ⟨b10, 0, none⟩, ((l.len : Int)).toNat, ((l.len : Int)).toNat⟩ (List.replicate ((l.len : Int)).toNat 0) := o10
    have z10 := n10.size
    refine fillLoop o10' (by simp only; omega) fun w11 o11 x11 => ?_
    rw [List.length_replicate] at o11
    have x411 : Ext No w4 w11 := n10.ext.trans x11 fun i hi h => by
      have h' : b10 = i := by simpa [Sl.blk] using h
      have := n10.at_
      omega
    have r11 := r4.no x411
    generalize hall : (⟨some ⟨b10, 0, none⟩, ((l.len : Int)).toNat, ((l.len : Int)).toNat⟩ : Sl) = sall at o11
    refine diskFork_spec r11 (by omega) fun dx w13 rx13 fx13 x13 => diskFork_spec (r11.no x13) (by omega) fun dy w14 ry14 fy14 x14 => ?_
    have z13 := x13.size
    have z14 := x14.size
    have x04 := x4.size
    have z411 := x411.size
    have x411' : Ext No w w14 := ((x4.no x411).no x13).no x14
    have ltd : ∀ i, d4.fp i → i < w11.heap.size := fun i h => r11.lt h
    have ltx : ∀ i, dx.fp i → i < w13.heap.size := fun i h => rx13.lt h
    refine ⟨fun w17 => ∃ dx' dy', dx.b = dx'.b ∧ dy.b = dy'.b ∧ DiskR w17.heap d4 D ∧ DiskR w17.heap dx' (crashD D (List.replicate ((l.len : Int)).toNat 15)) ∧ DiskR w17.heap dy' (crashD D []) ∧ Ext No w w17, ?_, ?_⟩
    · refine If.no (If.no (diskCrash_spec (rx13.no x14) ((o11.no x13).no x14).rd (fun x hx => by rw [List.mem_replicate] at hx; omega) (fun _ i hi h => ?_) (by omega) fun dx' w15 rx15 gx15 x15 => If.bne (fun h => absurd rfl h) fun _ => ?_))
      · have := (o11.lt hi).2; have := fx13 i h; omega
      have z15 := x15.size
      refine diskCrash_spec (ry14.ext x15 fun i hi h => ?_) (ms := []) (Rd.nil _ _) B8.nil (fun _ i hi => by simp [Sl.blk] at hi) (by omega) fun dy' w16 ry16 gy16 x16 => If.bne (fun h => absurd rfl h) fun _ => ⟨dx', dy', gx15.b.symm, gy16.b.symm, ?_, ?_, ry16, ?_⟩
      · have := fy14 i hi; have := ltx i h; omega
      · refine ((((r11.no x13).no x14).ext x15 fun i hi h => ?_).ext x16 fun i hi h => ?_)
        · have := ltd i hi; have := fx13 i h; omega
        · have := ltd i hi; have := fy14 i h; omega
      · refine rx15.ext x16 fun i hi h => ?_
        have hy := fy14 i h
        have hy' := ry14.lt h
        rcases gx15.fp i hi with h' | h'
        · have := ltx i h'; omega
        · omega
      · refine (x411'.trans x15 fun i hi h => ?_).trans x16 fun i hi h => ?_
        · have := fx13 i h; omega
        · have := fy14 i h; omega
    · rintro _ w17 ⟨dx', dy', ebx, eby, rd17, rx17, ry17, x17⟩
      have epx : dx.p = dx'.p := by simp [Dev.p, ebx]
      have epy : dy.p = dy'.p := by simp [Dev.p, eby]
      rw [epx, epy]
      have hcx : crashF D.firm D.waits (List.replicate ((l.len : Int)).toNat 15) = D.now := by rw [crash_all hwf.rw (by omega), e4]
      have hcy : crashF D.firm D.waits [] = D.firm := crashF_nil _ _
      have hnx : (crashD D (List.replicate ((l.len : Int)).toNat 15)).now = D.now := hcx
      have hfx : (crashD D (List.replicate ((l.len : Int)).toNat 15)).firm = D.now := hcx
      have hny : (crashD D []).now = D.firm := hcy
      have hn := c4.n
      have hfn := hwf.n
      refine ⟨fun m t w18 => ∃ q : Nat, t = q ∧ m = 8 - q ∧ q ≤ 8 ∧ Ext No w17 w18, ⟨_, 0, rfl, rfl, by omega, Ext.refl _ _⟩, ?_⟩
      rintro _ m t w18 ⟨q, rfl, rfl, hq, x18⟩
      refine If.dec (fun hlt => ?_) (fun hge => kn (x17.no x18))
      have has : ∀ {D' : DS}, D'.now.length = 8 → Dk.hasB D' (q : Int) = true := fun h => hD q (by omega) hlt h
      have hx8 : (crashD D (List.replicate ((l.len : Int)).toNat 15)).now.length = 8 := by rw [hnx, hn]
      have hy8 : (crashD D []).now.length = 8 := by rw [hny, hfn, hn]
      refine diskRead_all (rd17.no x18) (has hn) fun s19 c19 w19 h19 x19 => ?_
      obtain ⟨rfl, q19, _⟩ := h19 c4.down
      refine diskFirm_all ((rd17.no x18).no x19) (has hn) fun s20 w20 q20 x20 => ?_
      refine diskRead_all (((rx17.no x18).no x19).no x20) (has hx8) fun s21 c21 w21 h21 x21 => ?_
      obtain ⟨rfl, q21, _⟩ := h21 rfl
      refine diskRead_all ((((ry17.no x18).no x19).no x20).no x21) (has hy8) fun s22 c22 w22 h22 x22 => ?_
      obtain ⟨rfl, q22, _⟩ := h22 rfl
      refine diskFirm_all (((((rx17.no x18).no x19).no x20).no x21).no x22) (has hx8) fun s23 w23 q23 x23 => ?_
      rw [hnx] at q21
      rw [hny] at q22
      rw [hfx] at q23
      refine If.bne (fun h => absurd rfl h) fun _ => If.bne (fun h => absurd rfl h) fun _ => If.bne (fun h => absurd rfl h) fun _ => If.bne (fun h => absurd rfl h) fun _ => If.bne (fun h => absurd rfl h) fun _ => ?_
      have p19 := (((q19.no x20).no x21).no x22).no x23
      have p20 := ((q20.no x21).no x22).no x23
      refine StrC.mk ((q21.no x22).no x23) (fun _ _ _ h => Cell.mk h) (StrC.mk p19 (fun _ _ _ h => Cell.mk h) (eqStr ?_))
      refine StrC.mk (q22.no x23) (fun _ _ _ h => Cell.mk h) (StrC.mk p20 (fun _ _ _ h => Cell.mk h) (eqStr ?_))
      refine StrC.mk q23 (fun _ _ _ h => Cell.mk h) (StrC.mk p19 (fun _ _ _ h => Cell.mk h) (eqStr ?_))
      exact Ar.i64 (by omega) ⟨_, by omega, q + 1, by omega, rfl, by omega, ((((x18.no x19).no x20).no x21).no x22).no x23⟩
end Go.Proofs.Ytdgebnphgfbegaa
