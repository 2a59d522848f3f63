/- Layer 8: the law DiskSynced, walked. -/
import Derived.Test.YtdgebnphgfbegaaDiskJ
namespace Go.Proofs.Ytdgebnphgfbegaa
open Go.V Go.V.Dk
theorem set_rep {α : Type} {n i : Nat} {x : α} : (List.replicate n x).set i x = List.replicate n x := by
  apply List.ext_getElem (by simp)
  intro k h1 h2
  rw [List.getElem_set, List.getElem_replicate]
  split <;> rfl
theorem rep8 : ([.slice none 0 0, .slice none 0 0, .slice none 0 0, .slice none 0 0, .slice none 0 0, .slice none 0 0, .slice none 0 0, .slice none 0 0] : List Value) = (List.replicate 8 nilS).map Sl.v := rfl
set_option maxHeartbeats 2000000 in
theorem diskSynced_spec {l1 l2 masks : Sl} {w : World} {O1 O2 : List OpV} {ms : List Int} (h1 : Rd w.heap l1 5 (O1.flatMap OpV.c)) (n1 : O1.length = l1.len) (h2 : Rd w.heap l2 5 (O2.flatMap OpV.c)) (n2 : O2.length = l2.len) (hm : RdB w.heap masks ms) (hm8 : B8 ms) : C_law08_DiskSynced l1 l2 masks w fun b w' => b = true ∧ Ext No w w' := by
  apply S_law08_DiskSynced
  have kn : ∀ {w1 : World}, Ext No w w1 → C_law08_known w1 fun r w' => r = true ∧ Ext No w w' := fun x => known8_spec fun w' x' => ⟨rfl, x.no x'⟩
  refine ⟨fun w' => w' = w ∧ O1.length ≤ 60 ∧ O2.length ≤ 60, If.dec (fun _ => kn (Ext.refl _ _)) (fun a => If.dec (fun _ => kn (Ext.refl _ _)) (fun c => ⟨rfl, by omega, by omega⟩)), ?_⟩
  rintro _ w3 ⟨rfl, hO1, hO2⟩
  refine diskNew_spec (fun h => absurd (by omega) h) fun _ d w4 r4 fd x4 => ?_
  rw [show (8 : Int).toNat = 8 from rfl] at r4
  refine ⟨fun w' => w' = w4, If.no (If.bne (fun h => absurd rfl h) fun _ => rfl), ?_⟩
  rintro _ w4 rfl
  rw [rep8]
  intro b w6 n6
  have a6 := n6.at_
  have z6 := n6.size
  have z4 := x4.size
  have hbw : w3.heap.size ≤ b := by omega
  have x6 := x4.no n6.ext
  have r6 := r4.no n6.ext
  have ltd : ∀ k, d.fp k → k < w4.heap.size := fun k h => r4.lt h
  have f6 : Fm w6 b d 0 (List.replicate 8 nilS) (List.replicate 8 0) := ⟨n6.get, by simp, by simp, fun i hi => by omega, fun i k hi => by omega, fun h => by have := ltd b h; omega⟩
  refine ⟨fun m t w7 => ∃ (j : Nat) (S : List Sl), t = j ∧ m = 8 - j ∧ j ≤ 8 ∧ Fm w7 b d j S (List.replicate 8 0) ∧ DiskR w7.heap d (newD 8) ∧ Ext No w3 w7, ⟨_, 0, _, rfl, rfl, by omega, f6, r6, x6⟩, ?_⟩
  rintro _ m t w7 ⟨j, S, rfl, rfl, hj, f7, r7, x7⟩
  refine If.dec (fun hlt => ?_) (fun hge => ?_)
  · refine full_spec fun s8 w8 o8 x8 => ?_
    have o8' : OwnB w8.heap w7.heap.size s8 (rowOf 0) := o8
    refine (f7.no x8).put ⟨by omega, hlt⟩ o8' (blt f7.arr) (.inr (by omega)) (fun k h => r7.lt h) fun w9 f9 x9 => Ar.i64 (by omega) ⟨_, ?_, j + 1, S.set ((j : Int)).toNat s8, by omega, rfl, by omega, ?_, (r7.no x8).ext x9 fun k hk h => f7.db (h ▸ hk), (x7.no x8).trans x9 fun k hk h => ?_⟩
    · omega
    · have e : (List.replicate 8 (0 : Int)).set ((j : Int)).toNat 0 = List.replicate 8 0 := by
        exact set_rep
      rw [e, if_neg (by omega)] at f9
      exact f9
    · have h' : k = b := h
      omega
  have hj8 : j = 8 := by omega
  subst hj8
  refine ⟨fun m t w10 => ∃ (j : Nat) (d' : Dev) (D : DS) (S : List Sl) (fs : List Int), t = j ∧ m = O1.length - j ∧ j ≤ O1.length ∧ d'.b = d.b ∧ (∀ i, d'.fp i → w3.heap.size ≤ i) ∧ DiskR w10.heap d' D ∧ CalmD j D ∧ (∀ i, i < 8 → D.now.getD i [] = rowOf (fs.getD i 0)) ∧ Fm w10 b d' 8 S fs ∧ Ext No w3 w10,
    ⟨_, 0, d, newD 8, S, List.replicate 8 0, rfl, rfl, Nat.zero_le _, rfl, fd, r7, ⟨by simp [newD], rfl, rfl, rfl, by simp [newD], by simp [newD]⟩, fun i hi => ?_, f7, x7⟩, ?_⟩
  · have e1 : (newD 8).now.getD i [] = zeroRow := by show (List.replicate 8 zeroRow).getD i [] = zeroRow; rw [List.getD, List.getElem?_replicate, if_pos hi]; rfl
    have e2 : (List.replicate 8 (0 : Int)).getD i 0 = 0 := by rw [List.getD, List.getElem?_replicate, if_pos hi]; rfl
    rw [e1, e2]; rfl
  clear f7 r7 x7 f6 r6 x6 hge
  rintro _ m t w10 ⟨j, d10, D10, S, fs, rfl, rfl, hj, hb10, fp10, r10, c10, e10, f10, x10⟩
  have hp : d.p = d10.p := by simp [Dev.p, hb10]
  rw [hp]
  have z10 := x10.size
  refine If.dec (fun hlt => ?_) (fun hge => ?_)
  · refine opAt (h1.no x10) (by omega) hlt fun hi bl w12 hbl hbl10 x12 => ?_
    generalize O1[((j : Int)).toNat] = op at hbl
    have z12 := x12.size
    have nbl : ¬ d10.fp bl := fun h => by have := r10.lt h; omega
    refine calmWrite (r10.no x12) c10 (by omega) hbl nbl fun d14 w14 r14 g14 x14 => If.bne (fun h => absurd rfl h) fun _ => ?_
    obtain ⟨hz0, hz7⟩ := bitI_and7 op.i
    have z14 := x14.size
    have f14 := (f10.no x12).dev x14 g14
    have hbl14 : w14.heap[bl]? = some (.cells op.c.toArray 32 (0, 0)) := by rw [x14.blk _ (blt hbl) nbl]; exact hbl
    have c14 := c10.write (bitI .and .i64 op.i 7) (rowOf (op.at_ % 256))
    refine ⟨Ext No w14, (Ext.refl _ _).drew, op.i, Held.cell (Cell.lst hbl14 rfl), Nm.mk ⟨op.at_, Held.cell (Cell.lst hbl14 rfl), Ar.u8m (full_spec fun s15 w15 o15 x15 => ⟨x15.drew_left, ?_⟩)⟩⟩
    have x15' := x15.drew_left
    have o15' : OwnB w15.heap w14.heap.size s15 (rowOf (op.at_ % 256)) := o15
    refine (f14.no x15').put ⟨hz0, by omega⟩ o15' (blt f14.arr) (.inl rfl) (fun k h => r14.lt h) fun w16 f16 x16 => Ar.i64 (by omega) ⟨_, ?_, j + 1, d14, _, _, _, by omega, rfl, by omega, by rw [g14.b, hb10], fun i hi => ?_, (r14.no x15').ext x16 fun k hk h => f14.db (h ▸ hk), c14, fun i hi => ?_, f16, ?_⟩
    · omega
    · rcases g14.fp i hi with h | h
      · exact fp10 i h
      · omega
    · have hn := c10.n
      have hfl := f10.fl
      simp only [wrD, writeD]
      rw [getD_setA (by omega), getD_setA (by omega)]
      split
      · rfl
      · exact e10 i hi
    · exact ((((x10.no x12).trans x14 fun k hk h => by have := fp10 k h; omega).no x15').trans x16 fun k hk h => by
        have h' : k = b := h
        omega)
  have hjl : j = O1.length := by omega
  subst hjl
  have hs10 := c10.steps
  refine diskSync_spec r10 (by omega) fun d17 w17 r17 g17 x17 => ?_
  rw [c10.syncR] at r17 ⊢
  have c17 := c10.sync
  refine If.bne (fun h => absurd rfl h) fun _ => ?_
  intro b2 w18 n18
  have a18 := n18.at_
  have z18 := n18.size
  have z17 := x17.size
  have hp17 : d10.p = d17.p := by simp [Dev.p, g17.b]
  rw [hp17]
  have fp17 : ∀ i, d17.fp i → w3.heap.size ≤ i := fun i hi => by
    rcases g17.fp i hi with h | h
    · exact fp10 i h
    · omega
  have x017 : Ext No w3 w17 := x10.trans x17 fun k hk h => by have := fp10 k h; omega
  have f17 := f10.dev x17 g17
  have f18 := f17.no n18.ext
  have r18 := r17.no n18.ext
  have blt2 : b < b2 := by have := blt f17.arr; omega
  have sblt : ∀ i k, i < 8 → (S.getD i nilS).blk = some k → k < b2 := fun i k hi hk => by have := f17.lt hi hk; omega
  have gnil : ∀ i, (List.replicate 8 nilS).getD i nilS = nilS := fun i => by simp only [List.getD, List.getElem?_replicate]; split <;> rfl
  have gnil2 : ∀ i, (List.replicate 8 ([] : List Int)).getD i [] = [] := fun i => by simp only [List.getD, List.getElem?_replicate]; split <;> rfl
  have s18 : Sc w18.heap.size w18 b2 d17 (List.replicate 8 nilS) (List.replicate 8 []) := ⟨n18.get, by omega, Nat.le_refl _, by simp, by simp, fun i hi => by rw [gnil, gnil2]; exact Own.nil _ _ _ _, fun i k hi hk => by rw [gnil] at hk; simp [Sl.blk] at hk, fun i j k hi hj hk => by rw [gnil] at hk; simp [Sl.blk] at hk, fun h => by have := r17.lt h; omega⟩
  have firm17 : ∀ i, i < 8 → (syncD { D10 with steps := D10.steps + 1 }).firm.getD i [] = rowOf (fs.getD i 0) := e10
  have wt17 : (syncD { D10 with steps := D10.steps + 1 }).waits = [] := rfl
  generalize syncD { D10 with steps := D10.steps + 1 } = D17 at *
  clear e10 r10 c10
  refine ⟨fun m t w19 => ∃ (j : Nat) (d' : Dev) (D : DS) (T : List Sl) (xs : List (List Int)), t = j ∧ m = O2.length - j ∧ j ≤ O2.length ∧ d'.b = d17.b ∧ (∀ i, d'.fp i → w3.heap.size ≤ i) ∧ DiskR w19.heap d' D ∧ CalmD (O1.length + 1 + j) D ∧ D.waits.length = j ∧ D.firm = D17.firm ∧
      (∀ p ∈ D.waits, 0 ≤ p.1 ∧ p.1 < 8 ∧ ∃ x, p.2 = rowOf x ∧ x ∈ xs.getD p.1.toNat []) ∧ (∀ i, i < 8 → (xs.getD i []).length ≤ j) ∧ Fm w19 b d' 8 S fs ∧ Sc w18.heap.size w19 b2 d' T xs ∧ Ext No w3 w19,
    ⟨_, 0, d17, D17, _, _, rfl, rfl, Nat.zero_le _, rfl, fp17, r18, c17, (by rw [wt17]; rfl), rfl, fun p hp => (by rw [wt17] at hp; cases hp), fun i hi => (by rw [gnil2]; simp), f18, s18, x017.no n18.ext⟩, ?_⟩
  rintro _ m t w19 ⟨j, d19, D, T, xs, rfl, rfl, hj, hb19, fp19, r19, c19, hw19, hf19, hx19, hxl19, f19, s19, x19⟩
  have hp19 : d17.p = d19.p := by simp [Dev.p, hb19]
  rw [hp19]
  have z19 := x19.size
  refine If.dec (fun hlt => ?_) (fun hge => ?_)
  · refine opAt (h2.no x19) (by omega) hlt fun hi bl w21 hbl hbl19 x21 => ?_
    generalize O2[((j : Int)).toNat] = op at hbl
    have z21 := x21.size
    have nbl : ¬ d19.fp bl := fun h => by have := r19.lt h; omega
    refine calmWrite (r19.no x21) c19 (by omega) hbl nbl fun d23 w23 r23 g23 x23 => If.bne (fun h => absurd rfl h) fun _ => ?_
    have hz := bitI_and7 op.i
    have hz8 : (bitI .and .i64 op.i 7).toNat < 8 := by omega
    have z23 := x23.size
    have f23 := (f19.no x21).dev x23 g23
    have s23 := (s19.no x21).dev x23 g23
    have hbl23 : w23.heap[bl]? = some (.cells op.c.toArray 32 (0, 0)) := by rw [x23.blk _ (blt hbl) nbl]; exact hbl
    have c23 := c19.write (bitI .and .i64 op.i 7) (rowOf (op.at_ % 256))
    have wts : (wrD D (bitI .and .i64 op.i 7) (rowOf (op.at_ % 256))).waits = D.waits ++ [(bitI .and .i64 op.i 7, rowOf (op.at_ % 256))] := rfl
    have frm : (wrD D (bitI .and .i64 op.i 7) (rowOf (op.at_ % 256))).firm = D.firm := rfl
    generalize wrD D (bitI .and .i64 op.i 7) (rowOf (op.at_ % 256)) = D23 at *
    have own23 := s23.own _ hz8
    have blne : ∀ k, (T.getD (bitI .and .i64 op.i 7).toNat nilS).blk = some k → k ≠ bl ∧ k ≠ b2 := fun k hk => by
      have h1 := (s19.own _ hz8).lt hk
      have := s19.lt
      omega
    have nblT : ¬ (T.getD (bitI .and .i64 op.i 7).toNat nilS).blk = some bl := fun h => (blne bl h).1 rfl
    have nb2T : ¬ (T.getD (bitI .and .i64 op.i 7).toNat nilS).blk = some b2 := fun h => (blne b2 h).2 rfl
    refine ⟨Ext (fun k => (T.getD (bitI .and .i64 op.i 7).toNat nilS).blk = some k) w23, (Ext.refl _ _).drew, op.i, Held.but (Cell.lst hbl23 rfl) nblT, Nm.mk ⟨op.i, Held.but (Cell.lst hbl23 rfl) nblT, Nm.mk ⟨by omega, by omega, T.getD (bitI .and .i64 op.i 7).toNat nilS, ?_, op.at_, Held.but (Cell.lst hbl23 rfl) nblT, Ar.u8m fun b24 w24 n24 => ⟨(Ext.refl _ _).drew.no n24.ext, ?_⟩⟩⟩⟩
    · rw [addI]; exact Held.but (arrCell s23.arr s23.len ⟨by omega, by omega⟩) nb2T
    have x24 : Ext No w23 w24 := n24.ext.drew_left
    have z24 := x24.size
    have hxl := hxl19 _ hz8
    have lenT : (T.getD (bitI .and .i64 op.i 7).toNat nilS).len = (xs.getD (bitI .and .i64 op.i 7).toNat []).length := OwnB.len own23
    have src : Src Try.prog w24 (.slice (some (Addr.mk b24 0 none)) 1 1) 1 1 ([op.at_ % 256].map (Value.int .u8)) := (Own.new (sz := 1) (n := 1) n24 rfl (by simp [oneC])).rd.src
    refine app_uint8 (own23.no x24) (by have := s23.sz; omega) src (by omega) fun s25 w25 o25 len25 x25 blk25 => ?_
    rw [← List.map_append] at o25
    have x2325 : Ext (fun k => (T.getD (bitI .and .i64 op.i 7).toNat nilS).blk = some k) w23 w25 := x24.of_no.trans x25 fun _ _ h => h
    refine ⟨x2325, s23.put ⟨by omega, by omega⟩ x2325 o25 ?_ (fun k h => r23.lt h) fun w26 s26 x26 => Ar.i64 (by omega) ⟨_, ?_, j + 1, d23, D23, _, _, by omega, rfl, by omega, by rw [g23.b, hb19], fun i hi => ?_, r23.ext x26 fun k hk h => ?_, c23, by rw [wts]; simp; omega, by rw [frm]; exact hf19, fun p hp => ?_, fun i hi => ?_, f23.ext x26 (fun k h => ?_) (fun k h => .inl h), s26, ?_⟩⟩
    · rcases blk25 with h | ⟨k, h, hk⟩
      · exact .inl h
      · exact .inr ⟨k, h, by omega⟩
    · omega
    · rcases g23.fp i hi with h | h
      · exact fp19 i h
      · omega
    · rcases h with h | h
      · exact s23.db (h ▸ hk)
      · exact s23.nb _ k hz8 h hk
    · have hxl8 := s19.xl
      rw [wts] at hp
      rcases List.mem_append.1 hp with hp | hp
      · obtain ⟨p0, p8, x, px, pm⟩ := hx19 p hp
        refine ⟨p0, p8, x, px, ?_⟩
        rw [getD_setA (by omega)]
        split
        · rename_i e; rw [e]; exact List.mem_append_left _ pm
        · exact pm
      · simp only [List.mem_singleton] at hp
        subst hp
        refine ⟨by simp only; omega, by simp only; omega, _, rfl, ?_⟩
        rw [getD_setA (by omega), if_pos rfl]
        exact List.mem_append_right _ (by simp)
    · have hxl8 := s19.xl
      rw [getD_setA (by omega)]
      split
      · rw [List.length_append, List.length_singleton]; omega
      · have := hxl19 i hi; omega
    · rcases h with h | h
      · subst h
        exact ⟨by omega, fun i hi e => by have := sblt i _ hi e; omega⟩
      · have h1 := (s19.own _ hz8).lt h
        exact ⟨by omega, fun i hi e => by have := sblt i _ hi e; omega⟩
    · refine ((x19.no x21).trans x23 fun k hk h => ?_).trans x26 fun k hk h => ?_
      · have := fp19 k h; omega
      · rcases h with h | h
        · omega
        · have h1 := (s19.own _ hz8).lt h
          omega
  have hjl : j = O2.length := by omega
  subst hjl
  refine ⟨fun w30 => ∃ d30 D30, d19.b = d30.b ∧ DiskR w30.heap d30 D30 ∧ D30.down = false ∧ D30.now.length = 8 ∧ (∀ i, i < 8 → Sect (fs.getD i 0) (xs.getD i []) (D30.now.getD i [])) ∧ Fm w30 b d30 8 S fs ∧ Sc w18.heap.size w30 b2 d30 T xs ∧ Ext No w3 w30, diskWaiting_spec r19 ?_, ?_⟩
  · rw [hw19, n2]
    refine If.bne (fun h => absurd rfl h) fun _ => diskCrash_spec r19 (hm.no x19) hm8 (fun hne i hi h => by have := RdB.blt hm hne hi; have := fp19 i h; omega) (by omega) fun d28 w28 r28 g28 x28 => If.bne (fun h => absurd rfl h) fun _ => ?_
    have hp28 : d19.p = d28.p := by simp [Dev.p, g28.b]
    rw [hp28]
    have hfl : D.firm.length = 8 := by rw [r19.wf.n]; exact c19.n
    refine diskWaiting_spec r28 (If.bne (fun h => absurd rfl h) fun _ => ⟨d28, _, g28.b.symm, r28, rfl, ?_, ?_, f19.dev x28 g28, s19.dev x28 g28, x19.trans x28 fun k hk h => by have := fp19 k h; omega⟩)
    · show (crashF D.firm D.waits ms).length = 8
      rw [crashF_len, hfl]
    · show ∀ i, i < 8 → Sect (fs.getD i 0) (xs.getD i []) ((crashF D.firm D.waits ms).getD i [])
      refine sect_crash fs xs D.firm D.waits ms hfl (fun i hi => ?_) hx19
      rw [hf19, firm17 i hi]; exact sect_row
  rintro _ w30 ⟨d30, D30, hb30, r30, dn30, n30, sect30, f30, s30, x30⟩
  have hp30 : d19.p = d30.p := by simp [Dev.p, hb30]
  rw [hp30]
  refine ⟨fun m t w31 => ∃ q : Nat, t = q ∧ m = 8 - q ∧ q ≤ 8 ∧ Ext No w30 w31, ⟨_, 0, rfl, rfl, by omega, Ext.refl _ _⟩, ?_⟩
  rintro _ m t w31 ⟨q, rfl, rfl, hq, x31⟩
  refine If.dec (fun hlt => ?_) (fun hge => kn (x30.no x31))
  have hq8 : q < 8 := by omega
  refine diskRead_all (r30.no x31) (by unfold Dk.hasB; rw [n30]; simp; omega) fun s32 c32 w32 h32 x32 => ?_
  obtain ⟨rfl, rd32, _⟩ := h32 dn30
  rw [Int.toNat_natCast] at rd32
  have hrow := getD_row r30.wf.rn (i := q) (by omega)
  have sec := sect30 q hq8
  generalize D30.now.getD q [] = row at *
  have l32 := RdB.len rd32
  rw [hrow.1] at l32
  refine ⟨fun w33 => w33 = w32, If.bne (fun h => absurd rfl h) fun _ => If.bne (fun h => by rw [l32] at h; exact absurd rfl h) fun _ => rfl, ?_⟩
  rintro _ w33 rfl
  refine ⟨fun m t w34 => ∃ k : Nat, t = k ∧ m = 256 - k ∧ k ≤ 256 ∧ Ext No w33 w34, ⟨_, 0, rfl, rfl, by omega, Ext.refl _ _⟩, ?_⟩
  rintro _ m t w34 ⟨k, rfl, rfl, hk, x34⟩
  refine If.dec (fun hkl => ?_) (fun hkg => Ar.i64 (by omega) ⟨_, by omega, q + 1, by omega, rfl, by omega, (x31.no x32).no x34⟩)
  have hk256 : k < 256 := by omega
  obtain ⟨sk1, sk2⟩ := sec k hk256
  have f34 := ((f30.no x31).no x32).no x34
  have s34 := ((s30.no x31).no x32).no x34
  have rd34 := rd32.no x34
  have hfr := f34.rd q hq8
  have lfr := RdB.len hfr
  rw [(show (rowOf (fs.getD q 0)).length = 256 by unfold rowOf; exact List.length_replicate)] at lfr
  have hcT := s34.own q hq8
  have e64 : (Int.tdiv (k : Int) 64) * 64 = ((k / 64 * 64 : Nat) : Int) := by
    rw [show Int.tdiv (k : Int) 64 = ((k / 64 : Nat) : Int) from rfl]; omega
  have t64 : Int.tdiv (k : Int) 64 = ((k / 64 : Nat) : Int) := rfl
  refine ⟨fun ok w35 => Ext No w33 w35 ∧ (ok = true ∨ row.getD k 0 ∈ xs.getD q []), ?_, ?_⟩
  · have hx34 : Ext No w33 (drewW w34) := x34.drew
    refine ⟨Ext No w34, (Ext.refl _ _).drew, Ix.int rd34 (by omega) (by omega) fun _ _ _ c => ⟨_, Held.cell c, by omega, by omega, S.getD q nilS, ?_, Ix.int hfr (by omega) (by omega) fun _ _ _ c2 => ⟨_, Held.cell c2, ?_⟩⟩⟩
    · rw [addI]
      have := arrCell (z := (q : Int)) f34.arr f34.len ⟨by omega, by omega⟩
      exact Held.cell this
    rw [Int.toNat_natCast, rowOf_get hk256]
    refine If.beq (fun heq => Ix.int rd34 (by omega) (by omega) fun _ _ _ c3 => ⟨_, Held.cell c3, by omega, ?_⟩) (fun hne => ⟨hx34, .inr (sk2.resolve_left hne)⟩)
    rw [t64]
    refine Ar.i64 (by omega) ?_
    rw [show ((k / 64 : Nat) : Int) * 64 = ((k / 64 * 64 : Nat) : Int) by omega]
    refine Ar.i64 (by omega) (Ix.int rd34 (by omega) (by omega) fun _ _ _ c4 => ⟨_, Held.cell c4, hx34, .inl ?_⟩)
    rw [Int.toNat_natCast, Int.toNat_natCast]
    exact beq_iff_eq.2 sk1
  rintro _ ok w35 ⟨x35, hok⟩
  have s35 := ((s30.no x31).no x32).no x35
  have rd35 := rd32.no x35
  have hcT35 := s35.own q hq8
  have lT : (T.getD q nilS).len = (xs.getD q []).length := OwnB.len hcT35
  have hxq := hxl19 q hq8
  refine ⟨by omega, by omega, T.getD q nilS, ?_, ?_⟩
  · rw [addI]; exact arrCell (z := (q : Int)) s35.arr s35.len ⟨by omega, by omega⟩
  refine ⟨fun m ok t w36 => ∃ p : Nat, t = p ∧ m = (xs.getD q []).length - p ∧ p ≤ (xs.getD q []).length ∧ w36 = w35 ∧ (ok = true ∨ row.getD k 0 ∈ (xs.getD q []).drop p), ⟨_, 0, rfl, rfl, by omega, rfl, by simpa using hok⟩, ?_⟩
  rintro _ m ok' t w36 ⟨p, rfl, rfl, hp, rfl, hok'⟩
  refine If.dec (fun hlt => ?_) (fun hge => ?_)
  · have hp' : p < (xs.getD q []).length := by omega
    refine Ix.int hcT35.rd (by omega) (by omega) fun _ _ _ c5 => ⟨_, c5, If.cases (fun ho => Ar.i64 (by omega) ⟨_, ?_, p + 1, by omega, rfl, by omega, rfl, .inl rfl⟩) (fun ho => Ix.int rd35 (by omega) (by omega) fun _ _ _ c6 => ⟨_, c6, ?_⟩)⟩
    · omega
    rw [Int.toNat_natCast, Int.toNat_natCast]
    have hmem := hok'.resolve_left (by rw [ho]; simp)
    rw [drop_cons hp', ← getD_get hp'] at hmem
    refine If.beq (fun heq => ⟨by omega, ?_⟩) (fun hne => Ar.i64 (by omega) ⟨_, ?_, p + 1, by omega, rfl, by omega, rfl, .inr ?_⟩)
    · rw [t64]
      refine Ar.i64 (by omega) ?_
      rw [show ((k / 64 : Nat) : Int) * 64 = ((k / 64 * 64 : Nat) : Int) by omega]
      refine Ar.i64 (by omega) (Ix.int rd35 (by omega) (by omega) fun _ _ _ c7 => ⟨_, c7, Ar.i64 (by omega) ⟨_, ?_, p + 1, by omega, rfl, by omega, rfl, .inl ?_⟩⟩)
      · omega
      · rw [Int.toNat_natCast]
        exact beq_iff_eq.2 (by rw [← sk1]; exact heq)
    · omega
    · rcases List.mem_cons.1 hmem with h | h
      · exact absurd h hne
      · exact h
  · have hpl : p = (xs.getD q []).length := by omega
    have hk' : ok' = true := by
      rcases hok' with h | h
      · exact h
      · rw [hpl, List.drop_length] at h; cases h
    rw [hk']
    exact If.not (If.yes (Ar.i64 (by omega) ⟨_, by omega, k + 1, by omega, rfl, by omega, x35⟩))
end Go.Proofs.Ytdgebnphgfbegaa
