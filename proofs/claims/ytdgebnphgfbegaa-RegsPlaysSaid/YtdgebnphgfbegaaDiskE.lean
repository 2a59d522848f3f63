/- Layer 8: Crash, whole; what the laws know. -/
import Derived.Test.YtdgebnphgfbegaaDiskD
namespace Go.Proofs.Ytdgebnphgfbegaa
open Go.V Go.V.Dk
section
variable {w : World} {d : Dev} {D : DS}
theorem Rd.extN {S : Nat → Prop} {w w' : World} {s : Sl} {sz : Nat} {cs : List Value} (h : Rd w.heap s sz cs) (e : Ext S w w') (hS : cs ≠ [] → ∀ a b, s.a = some a → a.block = b → ¬ S b) : Rd w'.heap s sz cs := by
  by_cases hc : cs = []
  · subst hc; exact ⟨h.len, h.cap, fun hne => absurd rfl hne, h.cells⟩
  · exact h.ext e (hS hc)
set_option maxRecDepth 20000 in
theorem diskCrash_spec {masks : Sl} {ms : List Int} {K : Int → World → Prop} (r : DiskR w.heap d D) (hm : RdB w.heap masks ms) (h8 : B8 ms) (hfp : ms ≠ [] → ∀ i, masks.blk = some i → ¬ d.fp i) (hw : D.waits.length ≤ 4294967296)
    (k : ∀ d' w', DiskR w'.heap d' (crashD D ms) → Grow w d d' → Ext d.fp w w' → K 0 w') : C_disk_Disk_Crash d.p masks w K := by
  apply S_disk_Disk_Crash
  have hml := RdB.len hm
  have hlw := r.lw
  refine If.no ⟨fun w6 => DiskR w6.heap d { D with firm := crashF D.firm D.waits ms } ∧ Ext (fun i => d.sf.blk = some i) w w6, Nn.mk ⟨d.sw, Cell.lst r.blk rfl, ?_⟩, ?_⟩
  · refine ⟨fun m t w1 => ∃ (q : Nat) (F : List (List Int)), t = q ∧ m = D.waits.length - q ∧ q ≤ D.waits.length ∧ F.length = D.now.length ∧ (∀ x ∈ F, Row x) ∧ crashF F (D.waits.drop q) (ms.drop q) = crashF D.firm D.waits ms ∧ DiskR w1.heap d { D with firm := F } ∧ Ext (fun i => d.sf.blk = some i) w w1,
      ⟨_, 0, D.firm, rfl, rfl, Nat.zero_le _, r.wf.n, r.wf.rf, rfl, r, Ext.refl _ _⟩, ?_⟩
    rintro _ m t w1 ⟨q, F, rfl, rfl, hq, hF, hr, hc, r1, x1⟩
    refine If.dec (fun hlt => ?_) (fun hge => ?_)
    · have hq' : q < D.waits.length := by omega
      have hwr : Rd w1.heap d.sw 257 (D.waits.flatMap wtC) := r1.waits.rd
      refine Ix.elem hwr (wtC_len r.wf.rw) (by decide) (by omega) hlt fun b o hi hb hcell => ?_
      rw [drop_cons hq'] at hc
      have ep : D.waits[(q : Int).toNat] = D.waits[q] := rfl
      rw [ep] at hcell
      have hp := r.wf.rw _ (List.getElem_mem hq')
      generalize D.waits[q] = p at *
      refine ⟨p.1, hcell 0 _ rfl, p.2, hp.2.2.1, Cell.row fun j hj => ?_, fun b2 w2 new => ?_⟩
      · have := hcell (j + 1) (.int .u8 p.2[j]) (by simp [wtC, hj])
        rw [show o + 1 + j = o + (j + 1) by omega]; exact this
      · have ev : (.int .i64 p.1 : Value) :: (List.map (Value.int .u8) p.2 ++ []) = wtC p := by rw [List.append_nil]; rfl
        have el : (wtC p).length = 257 := by simp [wtC, hp.2.2.1]
        rw [ev]
        refine ⟨el, _, _, _, new.get, rfl, ?_, .inr (.inr (Nat.le_refl _)), fun v hv => ?_, fun w3 hw3 => ?_⟩
        · show 0 + _ ≤ _
          rw [el, List.size_toArray, List.length_cons, List.length_replicate]; omega
        · simp only [wtC, List.mem_cons] at hv
          rcases hv with rfl | hv
          · rfl
          · exact oneC_ints v hv
        · have hset : setL ((Value.int .i64 0) :: List.replicate 256 (Value.int .u8 0)) 0 (wtC p) = wtC p := setL_all _ _ (by rw [el, List.length_cons, List.length_replicate])
          have hb3 : w3.heap[b2]? = some (.cells (wtC p).toArray 87 (0, 0)) := by
            rw [hw3.get new.get]
            show some (Obj.cells ⟨setL ((Value.int .i64 0) :: List.replicate 256 (Value.int .u8 0)) 0 (wtC p)⟩ 87 (0, 0)) = _
            rw [hset]
          have a2 := new.at_
          have x13 : Ext No w1 w3 := new.ext.trans hw3.ext fun i hi h => by
            have h' : i = b2 := h
            omega
          have r3 := r1.no x13
          have x3 := x1.no x13
          have hbf : d.sf.blk ≠ some b2 := fun h => by have := (r1.firm.lt h).2; omega
          refine If.dec (fun hmk => ?_) (fun hmk => ?_)
          · have hnil : ms.drop q = [] := List.drop_of_length_le (by omega)
            rw [hnil, crashF_nil] at hc
            rw [← hc]; exact ⟨r3, x3⟩
          · have hqm : q < ms.length := by omega
            rw [drop_cons hqm, crashF] at hc
            have em : ms.getD q 0 = ms[q] := by simp [List.getD, hqm]
            have hmb := h8.get q
            rw [← em] at hc
            generalize hmke : ms.getD q 0 = mk at hc hmb
            have hold := getD_row hr (i := p.1.toNat) (by omega)
            refine ⟨fun m1 t1 w4 => ∃ j : Nat, t1 = j ∧ m1 = 4 - j ∧ j ≤ 4 ∧ DiskR w4.heap d { D with firm := F.set p.1.toNat (mixS mk j (F.getD p.1.toNat []) p.2) } ∧ w4.heap[b2]? = some (.cells (wtC p).toArray 87 (0, 0)) ∧ Ext (fun i => d.sf.blk = some i) w w4,
              ⟨4, 0, rfl, by omega, by omega, ?_, hb3, x3⟩, ?_⟩
            · have e0 : F.set p.1.toNat (mixS mk 0 (F.getD p.1.toNat []) p.2) = F := by
                rw [mixS_zero hold.1]
                have : F.getD p.1.toNat [] = F[p.1.toNat]'(by omega) := by simp [List.getD, show p.1.toNat < F.length by omega]
                rw [this]; simp
              rw [e0]; exact r3
            · rintro _ m1 t1 w4 ⟨j, rfl, hm1, hj, r4, hb4, x4⟩
              refine If.dec (fun hlt4 => ?_) (fun hge4 => ?_)
              · have hj4 : j < 4 := by omega
                have hm4 : RdB w4.heap masks ms := Rd.extN hm x4 fun hne a i ha hi h => hfp (fun e => hne (by rw [e]; rfl)) i (by simp [Sl.blk, ha, hi]) (.inr (.inr (.inl h)))
                refine Ix.int hm4 (by omega) (by omega) fun mb mo _ hcm => ⟨mk, ?_, by omega, ?_⟩
                · rw [Int.toNat_natCast, hmke] at hcm; exact hcm
                · have hdiv : 0 ≤ mk / 2 ^ j ∧ mk / 2 ^ j ≤ 255 := by
                    have : j = 0 ∨ j = 1 ∨ j = 2 ∨ j = 3 := by omega
                    rcases this with rfl | rfl | rfl | rfl <;> simp <;> omega
                  refine Nm.as (e' := mk / 2 ^ j) (by rw [fdiv_pow, Int.toNat_natCast, show min j (IntKind.bits .u8) = j from Nat.min_eq_left (by simp [IntKind.bits]; omega)]) (Nm.as (bitI_and1 hdiv) (If.bne (fun h1 => ?_) (fun h1 => ?_)))
                  · exact sector (K := fun w5 => Ar .i64 ((j : Int) + 1) fun z_7 => ∃ m1_1, m1_1 < m1 ∧ _) r4 hF hr hp hb4 hbf hj4 (by omega) fun w5 r5 hb5 x5 => Ar.i64 (by omega) ⟨4 - (j + 1), by omega, j + 1, by omega, rfl, by omega, r5, hb5, x4.trans x5 fun _ _ h => h⟩
                  · refine Ar.i64 (by omega) ⟨4 - (j + 1), by omega, j + 1, by omega, rfl, by omega, ?_, hb4, x4⟩
                    rw [mixS_skip h1]; exact r4
              · have : j = 4 := by omega
                subst this
                rw [mixS_four] at r4
                refine Ar.i64 (by omega) ⟨D.waits.length - (q + 1), by omega, q + 1, _, by omega, rfl, by omega, by rw [List.length_set]; exact hF, set_rows hr (mixR_row hold hp.2.2), hc, r4, x4⟩
    · have hnil : D.waits.drop q = [] := List.drop_of_length_le (by omega)
      rw [hnil, crashF] at hc
      · rw [← hc]; exact ⟨r1, x1⟩
      · intros; simp_all
  · rintro _ w6 ⟨r6, x6⟩
    have x6' : Ext d.fp w w6 := x6.mono fun j _ h => .inr (.inr (.inl h))
    have hn6 := r6.wf.n
    have hlo := r6.wf.lo
    simp only at hn6 hlo
    refine ⟨Ext (fun j => d.sn.blk = some j) w6, (Ext.refl _ _).drew, Nn.mk ⟨d.sn, Held.but (Cell.lst r6.blk rfl) r6.nb.1, Nn.mk ⟨d.sf, Held.but (Cell.lst r6.blk rfl) r6.nb.1, ?_⟩⟩⟩
    have rd : DiskR (drewW w6).heap d { D with firm := crashF D.firm D.waits ms } := r6
    refine copyRows rd.now rd.firm.rd r6.wf.rn r6.wf.rf hn6 (by simp only; omega) fun z w7 o7 x7 z7 => ⟨x7.drew_left, Nn.mk ?_⟩
    have wf7 : WF { D with now := crashF D.firm D.waits ms, firm := crashF D.firm D.waits ms } := ⟨rfl, by simp only; omega, by have := r6.wf.hi; simp only at this ⊢; omega, r6.wf.rf, r6.wf.rf, fun p hp => by have := r.wf.rw p hp; exact ⟨this.1, by simp only; omega, this.2.2⟩, r.wf.fl, r.wf.ct⟩
    have r7 := r6.setNow o7 x7.drew_left wf7
    refine St1.mk r7.blk (by simp) rfl fun w8 hw8 => ?_
    have wf8 : WF { D with now := crashF D.firm D.waits ms, firm := crashF D.firm D.waits ms, waits := [] } := ⟨rfl, wf7.lo, wf7.hi, wf7.rn, wf7.rf, fun p hp => by simp at hp, r.wf.fl, r.wf.ct⟩
    have r8 := r7.setWaits (s := ⟨none, 0, 0⟩) (W := []) (Own.nil _ _ _ _) hw8 (by simp [Sl.blk]) (fun _ _ => by simp [Sl.blk]) (fun _ _ => by simp [Sl.blk]) wf8
    refine Nn.mk (St1.mk r8.blk (by simp) rfl fun w9 hw9 => ?_)
    have r9 := r8.scal (st := D.steps) (fl := 0) (ct := D.cut) (dn := D.down) hw9 ⟨rfl, wf7.lo, wf7.hi, wf7.rn, wf7.rf, fun p hp => by simp at hp, by simp, r.wf.ct⟩
    refine Nn.mk (St1.mk r9.blk (by simp) rfl fun w10 hw10 => ?_)
    have r10 := r9.scal (st := D.steps) (fl := 0) (ct := -1) (dn := D.down) hw10 ⟨rfl, wf7.lo, wf7.hi, wf7.rn, wf7.rf, fun p hp => by simp at hp, by simp, by simp⟩
    refine Nn.mk (St1.mk r10.blk (by simp) rfl fun w11 hw11 => ?_)
    have r11 := r10.scal (st := D.steps) (fl := 0) (ct := -1) (dn := false) hw11 (crash_wf r.wf ms)
    have self : ∀ {a b : World} {o : Obj}, Wrt a d.b o b → Ext d.fp w a → Ext d.fp w b := fun h x => x.trans h.ext fun j _ h => .inl h
    refine k ⟨d.b, d.sn, d.sf, ⟨none, 0, 0⟩⟩ w11 r11 ⟨rfl, fun j hj => .inl ?_⟩ (self hw11 (self hw10 (self hw9 (self hw8 (x6'.trans x7.drew_left fun j _ h => .inr (.inl h))))))
    rcases hj with h | h | h | h
    · exact .inl h
    · exact .inr (.inl h)
    · exact .inr (.inr (.inl h))
    · simp [Sl.blk] at h
theorem set_get_same {l : List (List Int)} {i : Nat} {r : List Int} (h : i < l.length) : (l.set i r).getD i [] = r := getD_set h
def row7 : List Int := List.replicate 256 7
theorem known8_spec {K : Bool → World → Prop} (k : ∀ w', Ext No w w' → K true w') : C_law08_known w K := by
  apply S_law08_known
  refine diskNew_spec (fun h => absurd (by omega) h) fun _ d1 w1 r1 fp1 x1 => ?_
  have e8 : (8 : Int).toNat = 8 := rfl
  rw [e8] at r1
  have hrow : B8 row7 := fun x hx => by unfold row7 at hx; rw [List.mem_replicate] at hx; omega
  have hl : row7.length = 256 := by unfold row7; rw [List.length_replicate]
  have hst : stepD (newD 8) = (0, { newD 8 with steps := 1 }) := by simp [stepD, newD]
  have hw : writeR (newD 8) 1 row7 = (0, writeD { newD 8 with steps := 1 } 1 row7) := by
    unfold writeR; rw [if_pos ⟨by simp [Dk.hasB, newD], hl⟩, hst, if_pos rfl]
  have hcr : (crashD (writeD { newD 8 with steps := 1 } 1 row7) [2]).now.getD 1 [] = mixR 2 zeroRow row7 := by
    show (crashF (List.replicate 8 zeroRow) [(1, row7)] [2]).getD 1 [] = _
    rw [crashF, crashF_nil]
    rw [show (1 : Int).toNat = 1 from rfl, getD_set (by rw [List.length_replicate]; omega)]
    rfl
  refine ⟨fun w7 => ∃ d7, d7.b = d1.b ∧ DiskR w7.heap d7 (crashD (writeD { newD 8 with steps := 1 } 1 row7) [2]) ∧ Ext No w w7, ?_, ?_⟩
  · refine If.no (If.bne (fun h => absurd rfl h) fun _ => full_spec fun s2 w2 o2' x2 => ?_)
    have o2 : OwnB w2.heap w1.heap.size s2 row7 := o2'
    have f2 : ∀ i, s2.blk = some i → ¬ d1.fp i := fun i hi h => by have := (o2.lt hi).1; have := r1.lt h; omega
    refine diskWrite_spec (r1.no x2) o2.rd hrow f2 (by simp [newD]) (by simp [newD]) fun d3 w3 r3 g3 x3 => ?_
    rw [hw] at r3 ⊢
    have x03 : Ext No w w3 := (x1.no x2).trans x3 fun i hi h => by have := fp1 i h; omega
    refine If.bne (fun h => absurd rfl h) fun _ => ?_
    have hp : d1.p = d3.p := by simp [Dev.p, g3.b]
    rw [hp]
    refine diskWaiting_spec r3 (If.bne (fun h => absurd rfl h) fun _ => fun b5 w5 new => ?_)
    have o5 := Own.new (sz := 1) (n := 1) new rfl (by simp [oneC])
    have f5 : [(2 : Int)] ≠ [] → ∀ i, (⟨some ⟨b5, 0, none⟩, 1, 1⟩ : Sl).blk = some i → ¬ d3.fp i := fun _ i hi h => by have := (o5.lt hi).1; have := r3.lt h; omega
    refine diskCrash_spec (r3.no new.ext) (ms := [2]) o5.rd (by intro x hx; simp at hx; omega) f5 (by simp [writeD, newD]) fun d6 w6 r6 g6 x6 => If.bne (fun h => absurd rfl h) fun _ => ?_
    refine ⟨d6, by rw [g6.b, g3.b], r6, (x03.no new.ext).trans x6 fun i hi h => ?_⟩
    rcases g3.fp i h with h | h
    · have := fp1 i h; omega
    · have := x1.size; have := x2.size; omega
  · rintro _ w7 ⟨d7, hb7, r7, x7⟩
    have hp : d1.p = d7.p := by simp [Dev.p, hb7]
    rw [hp]
    have hlen7 : (crashD (writeD { newD 8 with steps := 1 } 1 row7) [2]).now.length = 8 := by
      show (crashF (List.replicate 8 zeroRow) [(1, row7)] [2]).length = 8
      rw [crashF_len, List.length_replicate]
    refine diskRead_spec r7 (fun h => by simp [Dk.hasB, hlen7] at h) (fun _ h => by simp [crashD] at h) fun _ _ s8 w8 o8 x8 => ?_
    rw [show (1 : Int).toNat = 1 from rfl, hcr] at o8
    have rd8 : RdB w8.heap s8 (mixR 2 zeroRow row7) := o8.rd
    have l8 := RdB.len rd8
    have hm : ∀ i, i < 256 → (mixR 2 zeroRow row7).getD i 0 = if i / 64 = 1 then 7 else 0 := fun i hi => by
      have h1 : zeroRow.getD i 0 = 0 := by unfold zeroRow; simp only [List.getD, List.getElem?_replicate, hi, if_true, Option.getD_some]
      have h2 : row7.getD i 0 = 7 := by unfold row7; simp only [List.getD, List.getElem?_replicate, hi, if_true, Option.getD_some]
      have : (mixR 2 zeroRow row7).getD i 0 = mixB 2 i (zeroRow.getD i 0) (row7.getD i 0) := by
        simp only [mixR, List.getD]; rw [List.getElem?_map, List.getElem?_range hi]; rfl
      rw [this, h1, h2, mixB]
      have hd : i / 64 = 0 ∨ i / 64 = 1 ∨ i / 64 = 2 ∨ i / 64 = 3 := by omega
      rcases hd with e | e | e | e <;> rw [e] <;> decide
    have hlen : (mixR 2 zeroRow row7).length = 256 := by unfold mixR; rw [List.length_map, List.length_range]
    rw [hlen] at l8
    refine If.beq (fun _ => If.beq (fun _ => ?_) (fun h => by omega)) (fun h => absurd rfl h)
    refine Ix.int rd8 (by omega) (by omega) fun _ _ _ c => ⟨_, c, ?_⟩
    rw [show (63 : Int).toNat = 63 from rfl, hm 63 (by omega)]
    refine If.beq (fun _ => ?_) (fun h => by simp at h)
    refine Ix.int rd8 (by omega) (by omega) fun _ _ _ c => ⟨_, c, ?_⟩
    rw [show (64 : Int).toNat = 64 from rfl, hm 64 (by omega)]
    refine If.beq (fun _ => ?_) (fun h => by simp at h)
    refine Ix.int rd8 (by omega) (by omega) fun _ _ _ c => ⟨_, c, ?_⟩
    rw [show (127 : Int).toNat = 127 from rfl, hm 127 (by omega)]
    refine If.beq (fun _ => ?_) (fun h => by simp at h)
    refine Ix.int rd8 (by omega) (by omega) fun _ _ _ c => ⟨_, c, ?_⟩
    rw [show (128 : Int).toNat = 128 from rfl, hm 128 (by omega)]
    exact k w8 (x7.no x8)
end
end Go.Proofs.Ytdgebnphgfbegaa
