/- Layer 8: the document's Crash; the device's Foreign. -/
import Derived.Test.YtdgebnphgfbegaaDiskN
namespace Go.V.Dk
open Go.V
/-- Of a write the first bytes have come through, those that the mask names. -/
def mixI (m : Int) (i : Nat) (old new : List Int) : List Int := (List.range 256).map fun q => if q < i then mixB m q (old.getD q 0) (new.getD q 0) else old.getD q 0
theorem mixI_len (m : Int) (i : Nat) (old new : List Int) : (mixI m i old new).length = 256 := by unfold mixI; rw [List.length_map, List.length_range]
theorem mixI_get {m : Int} {i q : Nat} {old new : List Int} (h : q < (mixI m i old new).length) : (mixI m i old new)[q] = if q < i then mixB m q (old.getD q 0) (new.getD q 0) else old.getD q 0 := by
  simp only [mixI, List.getElem_map, List.getElem_range]
theorem mixI_zero {m : Int} {old new : List Int} (h : old.length = 256) : mixI m 0 old new = old := by
  apply List.ext_getElem (by rw [mixI_len, h])
  intro q h1 h2
  rw [mixI_get, if_neg (by omega), getD_get h2]
theorem mixI_full {m : Int} {old new : List Int} : mixI m 256 old new = mixR m old new := by
  apply List.ext_getElem (by rw [mixI_len, mixR_len])
  intro q h1 h2
  have hq : q < 256 := by rw [mixI_len] at h1; exact h1
  rw [mixI_get, if_pos hq, ← getD_get h2, mixR_get hq]
theorem mixI_row {m : Int} {i : Nat} {old new : List Int} (ho : Row old) (hn : Row new) : Row (mixI m i old new) := by
  refine ⟨mixI_len _ _ _ _, fun x hx => ?_⟩
  unfold mixI at hx
  rw [List.mem_map] at hx
  obtain ⟨q, _, rfl⟩ := hx
  unfold mixB
  split
  · split
    · exact hn.2.get q
    · exact ho.2.get q
  · exact ho.2.get q
theorem mixI_skip {m : Int} {i : Nat} {old new : List Int} (h : ¬ m / 2 ^ (i / 64) % 2 = 1) : mixI m (i + 1) old new = mixI m i old new := by
  apply List.ext_getElem (by rw [mixI_len, mixI_len])
  intro q h1 h2
  rw [mixI_get, mixI_get]
  by_cases e : q = i
  · subst e
    rw [if_pos (by omega), if_neg (by omega)]
    unfold mixB; rw [if_neg h]
  · by_cases e2 : q < i
    · rw [if_pos (by omega), if_pos e2]
    · rw [if_neg (by omega), if_neg e2]
theorem mixI_take {m : Int} {i : Nat} {old new : List Int} (h : m / 2 ^ (i / 64) % 2 = 1) : mixI m (i + 1) old new = (mixI m i old new).set i (new.getD i 0) := by
  apply List.ext_getElem (by rw [List.length_set, mixI_len, mixI_len])
  intro q h1 h2
  rw [mixI_get, List.getElem_set]
  by_cases e : q = i
  · subst e
    rw [if_pos (by omega), if_pos rfl]
    unfold mixB; rw [if_pos h]
  · rw [if_neg (Ne.symm e), mixI_get]
    by_cases e2 : q < i
    · rw [if_pos (by omega), if_pos e2]
    · rw [if_neg (by omega), if_neg e2]
end Go.V.Dk
namespace Go.Proofs.Ytdgebnphgfbegaa
open Go.V Go.V.Dk
section
variable {w w' : World} {T T' : Tg} {r : Dev} {D : DS}
theorem firmWf {F : List (List Int)} (h : WF D) (hl : F.length = D.now.length) (hr : ∀ r ∈ F, Row r) : WF { D with firm := F } := ⟨hl, h.lo, h.hi, h.rn, hr, h.rw, h.fl, h.ct⟩
set_option maxHeartbeats 1000000 in
set_option maxRecDepth 20000 in
theorem refCrash_spec {masks : Sl} {ms : List Int} {K : World → Prop} (q : RefR w.heap T r D) (hm : RdB w.heap masks ms) (h8 : B8 ms) (hfp : ms ≠ [] → ∀ i, masks.blk = some i → T i = none) (hw : D.waits.length ≤ 4294967296)
    (k : ∀ T' r' w', RefR w'.heap T' r' (crashD D ms) → GrowT w T T' r r' → Ext (fun b => T b ≠ none) w w' → K w') : C_ref08_Disk_Crash r.p masks w K := by
  apply S_ref08_Disk_Crash
  have hml := RdB.len hm
  have hlw := q.waits.len
  have hn := q.wf.n
  have hlo := q.wf.lo
  have hhi := q.wf.hi
  refine ⟨fun w5 => RefR w5.heap T r { D with firm := crashF D.firm D.waits ms } ∧ Ext (fun b => T b ≠ none) w w5, ?_, ?_⟩
  · refine ⟨fun m c w1 => ∃ (j : Nat) (F : List (List Int)), c = j ∧ m = D.waits.length - j ∧ j ≤ D.waits.length ∧ F.length = D.now.length ∧ (∀ x ∈ F, Row x) ∧ crashF F (D.waits.drop j) (ms.drop j) = crashF D.firm D.waits ms ∧ RefR w1.heap T r { D with firm := F } ∧ Ext (fun b => T b ≠ none) w w1,
      ⟨_, 0, D.firm, rfl, rfl, Nat.zero_le _, hn, q.wf.rf, rfl, q, Ext.refl _ _⟩, ?_⟩
    rintro _ m c w1 ⟨j, F, rfl, rfl, hj, hF, hr, hc, q1, x1⟩
    refine ⟨fun w2 => w2 = w1 ∧ j < D.waits.length ∧ j < ms.length, ?_, ?_⟩
    · have hlw1 := q1.waits.len
      simp only at hlw1
      refine Nn.mk ⟨r.sw, Cell.lst q1.blk rfl, If.dec (fun h => If.dec (fun h' => ⟨rfl, by omega, by omega⟩) fun h' => ⟨?_, x1⟩) fun h => ⟨?_, x1⟩⟩
      · have e : ms.drop j = [] := List.drop_of_length_le (by omega)
        rw [e, crashF_nil] at hc; rw [← hc]; exact q1
      · have e : D.waits.drop j = [] := List.drop_of_length_le (by omega)
        rw [e] at hc
        have e2 : crashF F [] (ms.drop j) = F := rfl
        rw [e2] at hc; rw [← hc]; exact q1
    rintro _ w2 ⟨rfl, hjw, hjm⟩
    have hp := q.wf.rw _ (List.getElem_mem hjw)
    have hmj := h8 _ (List.getElem_mem hjm)
    rw [drop_cons hjw, drop_cons hjm, crashF] at hc
    have hwj : ∀ {w' : World} {T' : Tg} {DD : DS}, DD.waits = D.waits → RefR w'.heap T' r DD → ∀ {K : Addr → Prop}, (∀ b o v, r.sw.blk = some b → Cell w' ⟨b, o, none⟩ (.int .i64 D.waits[j].1) → Cell w' ⟨b, o + 1, none⟩ (Sl.v v) → RdB w'.heap v D.waits[j].2 → (∀ b, v.blk = some b → T' b = some (6, 0)) → K ⟨b, o, none⟩) → Ix r.sw.a r.sw.len (j : Int) 2 K := fun he qq K kk => by
      have h' := qq.waits
      rw [he] at h'
      exact h'.ix (by omega) (by omega) fun b o v hi hb c1 c2 c3 c4 => kk b o v hb (by simpa using c1) c2 (by simpa using c3) c4
    generalize hpe : D.waits[j] = p at *
    generalize hme : ms[j] = mk at *
    have fr := hr _ (List.getElem_mem (show p.1.toNat < F.length by omega))
    have fe := getD_eq (show p.1.toNat < F.length by omega)
    refine ⟨fun m c w3 => ∃ i : Nat, c = i ∧ m = 256 - i ∧ i ≤ 256 ∧ RefR w3.heap T r { D with firm := F.set p.1.toNat (mixI mk i (F.getD p.1.toNat []) p.2) } ∧ Ext (fun b => T b ≠ none) w w3, ⟨_, 0, rfl, rfl, Nat.zero_le _, ?_, x1⟩, ?_⟩
    · rw [mixI_zero (by rw [fe]; exact fr.1), set_getD]; exact q1
    rintro _ m c w3 ⟨i, rfl, rfl, hi, q3, x3⟩
    refine If.dec (fun hlt => ?_) (fun hge => ?_)
    · have hms : ms ≠ [] := by intro e; subst e; simp at hjm
      have hm3 : RdB w3.heap masks ms := Rd.ext hm x3 fun a c ha hc h => h (hfp hms c (by simp [Sl.blk, ha, hc]))
      have hi' : i < 256 := by omega
      have hgd : ms.getD j 0 = mk := by rw [← hme]; simp [List.getD, hjm]
      refine Ix.int hm3 (by omega) (by omega) fun b2 o2 hb2 hc2 => ⟨mk, by rw [Int.toNat_natCast, hgd] at hc2; exact hc2, by decide, ?_⟩
      have hdv : Int.tdiv (i : Int) 64 = ((i / 64 : Nat) : Int) := by rw [Int.tdiv_eq_ediv_of_nonneg (by omega)]; omega
      rw [hdv]
      refine Ar.i64 (by omega) ⟨by omega, ?_⟩
      have hmin : min ((i / 64 : Nat) : Int).toNat (IntKind.bits .u8) = i / 64 := by
        have : IntKind.bits .u8 = 8 := rfl
        rw [this]; omega
      rw [hmin, Int.fdiv_eq_ediv_of_nonneg _ (Int.le_of_lt (Int.pow_pos (by omega)))]
      have hnn : 0 ≤ mk / 2 ^ (i / 64) := Int.ediv_nonneg hmj.1 (Int.le_of_lt (Int.pow_pos (by omega)))
      refine Nm.mk ⟨by decide, Nm.as (Int.tmod_eq_emod_of_nonneg hnn) ?_⟩
      have wfi : ∀ i, WF { D with firm := F.set p.1.toNat (mixI mk i (F.getD p.1.toNat []) p.2) } := fun i => firmWf q.wf (by rw [List.length_set]; exact hF) (set_rows hr (mixI_row (by rw [fe]; exact fr) hp.2.2))
      refine If.beq (fun hbit => ?_) (fun hbit => ?_)
      · have lf := q3.firm.len
        simp only [List.length_set] at lf
        refine ⟨Ext (fun b => T b = some (4, p.1.toNat)) w3, (Ext.refl _ _).drew, Nn.mk ⟨r.sf, Held.but (Cell.lst q3.blk rfl) (fun h => tne h q3.hb (by simp)), Nn.mk ⟨r.sw, Held.but (Cell.lst q3.blk rfl) (fun h => tne h q3.hb (by simp)), hwj (DD := { D with firm := F.set p.1.toNat (mixI mk i (F.getD p.1.toNat []) p.2) }) rfl q3 fun b4 o4 v4 hb4 c4 c4' rd4 t4 => ⟨p.1, Held.but c4 (fun h => tne h (q3.waits.tag b4 hb4) (by simp)), ?_⟩⟩⟩⟩
        refine q3.firm.ix (by decide) hp.1 (by omega) fun b5 o5 v5 hi5 hb5 hc5 ov5 tv5 up5 => ⟨v5, Held.but hc5 (fun h => tne h (q3.firm.tag b5 hb5) (by simp)), Nn.mk ⟨r.sw, Held.but (Cell.lst q3.blk rfl) (fun h => tne h q3.hb (by simp)), hwj (DD := { D with firm := F.set p.1.toNat (mixI mk i (F.getD p.1.toNat []) p.2) }) rfl q3 fun b6 o6 v6 hb6 c6 c6' rd6 t6 => ⟨v6, Held.but c6' (fun h => tne h (q3.waits.tag b6 hb6) (by simp)), ?_⟩⟩⟩
        have l6 := RdB.len rd6
        have lp := hp.2.2.1
        refine Ix.int rd6 (by omega) (by omega) fun b7 o7 hb7 hc7 => ⟨p.2.getD i 0, Held.but (by simpa using hc7) (fun h => tne h (t6 b7 hb7) (by simp)), ?_⟩
        have e5 : ({ D with firm := F.set p.1.toNat (mixI mk i (F.getD p.1.toNat []) p.2) } : DS).firm[p.1.toNat] = mixI mk i (F.getD p.1.toNat []) p.2 := by simp
        rw [e5] at ov5
        have l5 := RdB.len ov5.rd
        rw [mixI_len] at l5
        refine St1.own (w := drewW w3) ov5 (by omega) (by omega) rfl fun w8 o8 x8 z8 => ?_
        have eset : ((mixI mk i (F.getD p.1.toNat []) p.2).map (Value.int .u8)).set ((i : Int)).toNat (.int .u8 (p.2.getD i 0)) = (mixI mk (i + 1) (F.getD p.1.toNat []) p.2).map (Value.int .u8) := by
          rw [← List.map_set, Int.toNat_natCast, mixI_take hbit]
        rw [eset] at o8
        have x8' : Ext (fun b => v5.blk = some b) w3 w8 := x8.drew_left
        have x8t : Ext (fun b => T b = some (4, p.1.toNat)) w3 w8 := x8'.mono fun c _ h => tv5 c h
        have rows8 := up5 w8 _ o8 x8'
        simp only [List.set_set] at rows8
        have q8 := q3.setFirm rows8 (x8t.mono fun c _ h => ⟨_, h, .inr rfl⟩) (wfi (i + 1))
        refine ⟨x8t, Ar.i64 (by omega) ⟨256 - (i + 1), by omega, i + 1, by omega, rfl, by omega, q8, x3.trans x8t fun c _ h => by rw [h]; simp⟩⟩
      · refine Ar.i64 (by omega) ⟨256 - (i + 1), by omega, i + 1, by omega, rfl, by omega, ?_, x3⟩
        rw [mixI_skip hbit]; exact q3
    · have ei : i = 256 := by omega
      subst ei
      rw [mixI_full] at q3
      refine Ar.i64 (by omega) ⟨D.waits.length - (j + 1), by omega, j + 1, _, by omega, rfl, by omega, by rw [List.length_set]; exact hF, set_rows hr (mixR_row (by rw [fe]; exact fr) hp.2.2), hc, q3, x3⟩
  · rintro _ w5 ⟨q5, x5⟩
    have hcl := crashF_len D.firm D.waits ms
    have hcr := crashF_rows (ms := ms) q.wf.rf q.wf.rw (by omega)
    generalize hC : crashF D.firm D.waits ms = C at *
    have wfj : ∀ j : Nat, WF { D with firm := C, now := C.take j ++ D.now.drop j } := fun j => ⟨by simp; omega, by simp; omega, by simp; omega, fun x hx => by
      rcases List.mem_append.1 hx with h | h
      · exact hcr x (List.mem_of_mem_take h)
      · exact q.wf.rn x (List.mem_of_mem_drop h), hcr, fun p hp => by
        have h1 := q.wf.rw p hp
        refine ⟨h1.1, ?_, h1.2.2⟩
        simp only [List.length_append, List.length_take, List.length_drop]; omega, q.wf.fl, q.wf.ct⟩
    refine ⟨fun m i w2 => ∃ (j : Nat) (T2 : Tg), i = j ∧ m = D.now.length - j ∧ j ≤ D.now.length ∧ RefR w2.heap T2 r { D with firm := C, now := C.take j ++ D.now.drop j } ∧ (∀ b, T2 b ≠ none → T b ≠ none ∨ w.heap.size ≤ b) ∧ Ext (fun b => T b ≠ none) w w2,
      ⟨_, 0, T, rfl, rfl, Nat.zero_le _, q5, fun _ h => .inl h, x5⟩, ?_⟩
    rintro _ m i w2 ⟨j, T2, rfl, rfl, hj, q2, t2, x2⟩
    have ln := q2.now.len
    simp only [List.length_append, List.length_take, List.length_drop] at ln
    refine Nn.mk ⟨r.sn, Cell.lst q2.blk rfl, If.dec (fun hlt => ?_) (fun hge => ?_)⟩
    · have hj' : j < D.now.length := by omega
      refine ⟨Ext (fun b => T2 b = some (1, 0)) w2, (Ext.refl _ _).drew, Nn.mk ⟨r.sn, Held.but (Cell.lst q2.blk rfl) (fun h => tne h q2.hb (by decide)), Nn.mk ⟨r.sf, Held.but (Cell.lst q2.blk rfl) (fun h => tne h q2.hb (by decide)), ?_⟩⟩⟩
      refine copyRow q2.now q2.firm (by decide) (by decide) (by decide) q2.old (show j < C.length by omega) (by simp; omega) (hcr _ (List.getElem_mem _)) fun T3 w3 t3 t3' rows3 x3 => Ar.i64 (by omega) ⟨_, ?_, j + 1, T3, by omega, rfl, by omega, ?_, fun b h => ?_, ?_⟩
      · omega
      · have e2 := set_take_drop (a := C) (b := D.now) (show j < C.length by omega) (by omega)
        simp only at rows3
        rw [e2] at rows3
        have z3 := x3.size
        have old3 : ∀ b, T3 b ≠ none → b < w3.heap.size := fun b h => by
          rcases t3' b h with h | h
          · have := q2.old b h; omega
          · omega
        have hb3 : w3.heap[r.b]? = _ := (x3.blk _ (blt q2.blk) (fun h => tne q2.hb h (by decide))).trans q2.blk
        exact ⟨hb3, t3 _ _ q2.hb, rows3, (q2.firm.ext x3 (fun b h h' => tne h h' (by decide)) fun b j h h' => tne h h' (by simp)).tags t3, (q2.waits.ext x3 (fun b h h' => tne h h' (by decide)) fun b h h' => tne h h' (by simp)).tags t3, old3, wfj (j + 1)⟩
      · have := x2.size
        rcases t3' b h with h | h
        · exact t2 b h
        · right; omega
      · refine x2.trans x3 fun b hb h => ?_
        rcases t2 b (by rw [h]; simp) with h | h
        · exact h
        · omega
    · have ej : j = D.now.length := by omega
      subst ej
      refine Nn.mk (St1.mk q2.blk (by simp) rfl fun w3 hw3 => ?_)
      have q3 := q2.setWaits (WRows.nil _ _) hw3 ⟨(wfj D.now.length).n, (wfj D.now.length).lo, (wfj D.now.length).hi, (wfj D.now.length).rn, hcr, fun p hp => by simp at hp, q.wf.fl, q.wf.ct⟩
      have ef : C.take D.now.length ++ D.now.drop D.now.length = C := by rw [List.drop_length, List.append_nil, List.take_of_length_le (by omega)]
      rw [ef] at q3
      have own : ∀ {a b : World}, Ext (fun b => T b ≠ none) w a → Ext (· = r.b) a b → Ext (fun b => T b ≠ none) w b := fun x y => x.trans y fun b hb h => by
        have h' : b = r.b := h
        subst h'; rw [q.hb]; simp
      refine Nn.mk (St1.mk q3.blk (by simp) rfl fun w4 hw4 => ?_)
      have q4 : RefR w4.heap T2 _ { D with now := C, firm := C, waits := [], fail := 0 } := q3.scal (st := D.steps) (fl := 0) (ct := D.cut) (dn := D.down) hw4 ⟨q3.wf.n, q3.wf.lo, q3.wf.hi, q3.wf.rn, q3.wf.rf, q3.wf.rw, by simp, q3.wf.ct⟩
      refine Nn.mk (St1.mk q4.blk (by simp) rfl fun w5 hw5 => ?_)
      have q5 : RefR w5.heap T2 _ { D with now := C, firm := C, waits := [], fail := 0, cut := -1 } := q4.scal (st := D.steps) (fl := 0) (ct := -1) (dn := D.down) hw5 ⟨q3.wf.n, q3.wf.lo, q3.wf.hi, q3.wf.rn, q3.wf.rf, q3.wf.rw, by simp, by simp⟩
      refine Nn.mk (St1.mk q5.blk (by simp) rfl fun w6 hw6 => ?_)
      have q6 : RefR w6.heap T2 _ { D with now := C, firm := C, waits := [], fail := 0, cut := -1, down := false } := q5.scal (st := D.steps) (fl := 0) (ct := -1) (dn := false) hw6 ⟨q3.wf.n, q3.wf.lo, q3.wf.hi, q3.wf.rn, q3.wf.rf, q3.wf.rw, by simp, by simp⟩
      have ed : ({ D with now := C, firm := C, waits := [], fail := 0, cut := -1, down := false } : DS) = crashD D ms := by unfold crashD; rw [hC]
      rw [ed] at q6
      exact k T2 _ w6 q6 ⟨rfl, t2⟩ (own (own (own (own x2 hw3.ext) hw4.ext) hw5.ext) hw6.ext)
end
section
variable {w w' : World} {d : Dev} {D : DS}
set_option maxRecDepth 20000 in
/-- Bytes are copied into a row. -/
theorem pokeRow {s b : Sl} {L : List (List Int)} {bs : List Int} {i at_ : Nat} {K : World → Prop} (o : Own w.heap 0 T_disk_block 256 s (L.flatMap blkC)) (hr : ∀ x ∈ L, Row x) (hi : i < L.length) (rd : RdB w.heap b bs) (hle : at_ + bs.length ≤ 256)
    (k : ∀ w', Own w'.heap 0 T_disk_block 256 s ((L.set i (splice (L.getD i []) at_ bs)).flatMap blkC) → Ext (fun j => s.blk = some j) w w' → w'.heap.size = w.heap.size → K w') :
    Ix s.a s.len (i : Int) 256 fun a => Cut ⟨some a, 256, 256⟩ (at_ : Int) (((256 : Nat) : Int)) (((256 : Nat) : Int)) 1 fun s' => CopyW Try.prog 23 23 s' (.slice b.a b.len b.cap) (fun _ w3 => K w3) w := by
  have fl := flat_len' (blkC_len hr)
  have hl : s.len = L.length := by have := o.len; rw [fl] at this; omega
  have hb := RdB.len rd
  have hlt : i * 256 + 256 ≤ (L.flatMap blkC).length := by rw [fl]; omega
  obtain ⟨bf, rest, ha, hba, hbk, hc, hcap⟩ := o.place (by intro h; rw [h] at hlt; simp at hlt)
  refine ⟨_, ha, by omega, by omega, ?_⟩
  rw [Int.toNat_natCast, show (⟨bf, 0, none⟩ : Addr).add (i * 256) = ⟨bf, i * 256, none⟩ by rw [addr_add_none rfl]; simp]
  by_cases hat : at_ < 256
  · refine Cut.from (b := bf) (off := i * 256) (n := 256) (lo := at_) (hi := 256) (by omega) (by omega) hat ?_
    refine copy_uint8 rfl hbk rd (by rw [List.length_append]; simp only; omega) fun w3 hw3 => ?_
    have et : (bs.map (Value.int .u8)).take (min b.len (256 - at_) * 1) = bs.map (Value.int .u8) := List.take_of_length_le (by rw [List.length_map]; omega)
    simp only [et] at hw3
    obtain ⟨o3, x3, z3⟩ := o.upd ha hba hbk hc hcap hw3 oneC_ints (by rw [List.length_map]; omega)
    rw [setSplice hr hi hle] at o3
    exact k w3 o3 x3 z3
  · have h0 : bs.length = 0 := by omega
    have e0 : bs = [] := List.eq_nil_of_length_eq_zero h0
    subst e0
    refine Cut.mk (by omega) (by omega) (by omega) (by simp) ?_
    have e : cutA (some (Addr.mk bf (i * 256) none)) (((256 : Nat) : Int)).toNat ((at_ : Int)).toNat 1 = some ⟨bf, i * 256, none⟩ := by
      unfold cutA; rw [if_pos (by simp at hle; omega)]
    simp only [e]
    have hbl : b.len = 0 := by simpa using hb
    refine copy_uint8 rfl hbk rd (by rw [List.length_append, hbl, Nat.zero_min, Nat.zero_mul]; omega) fun w3 hw3 => ?_
    simp only [List.map_nil, List.take_nil] at hw3
    obtain ⟨o3, x3, z3⟩ := o.upd (vs := []) ha hba hbk hc hcap hw3 (by simp) (by rw [List.length_nil]; omega)
    rw [splice_nil, set_getD] at k
    exact k w3 o3 x3 z3
theorem diskForeign_spec {i at_ : Int} {b : Sl} {bs : List Int} {K : Int → World → Prop} (r : DiskR w.heap d D) (hb : RdB w.heap b bs) (h8 : B8 bs) (hfp : bs ≠ [] → ∀ i, b.blk = some i → ¬ d.fp i) (hat : -9223372036854775808 ≤ at_ ∧ at_ ≤ 9223372036854775807)
    (k2 : ¬ (hasB D i = true ∧ 0 ≤ at_ ∧ at_ + bs.length ≤ 256) → K 2 w)
    (k : hasB D i = true ∧ 0 ≤ at_ ∧ at_ + bs.length ≤ 256 → ∀ w', DiskR w'.heap d (foreignD D i at_.toNat bs) → Ext d.fp w w' → w'.heap.size = w.heap.size → K 0 w') : C_disk_Disk_Foreign d.p i at_ b w K := by
  apply S_disk_Disk_Foreign
  have hbl := RdB.len hb
  refine If.no ⟨fun w' => w' = w ∧ hasB D i = true ∧ 0 ≤ at_ ∧ at_ + bs.length ≤ 256, ?_, ?_⟩
  · refine diskHas_spec r (If.not (If.cases (fun h => If.dec (fun h1 => k2 (by omega)) fun h1 => If.dec (fun h2 => k2 (by omega)) fun h2 => Ar.i64 (by omega) (If.dec (fun h3 => k2 (by omega)) fun h3 => ⟨rfl, h, by omega, by omega⟩)) (fun h => k2 (by rw [h]; simp))))
  rintro _ w0 ⟨rfl, hh, h0, hle⟩
  have hi : 0 ≤ i ∧ i < D.now.length := by simpa [hasB] using hh
  have hn := r.wf.n
  have rn := getD_row r.wf.rn (show i.toNat < D.now.length by omega)
  have rf := getD_row r.wf.rf (show i.toNat < D.firm.length by omega)
  have ei : i = ((i.toNat : Nat) : Int) := by omega
  have ea : at_ = ((at_.toNat : Nat) : Int) := by omega
  have lea : at_.toNat + bs.length ≤ 256 := by omega
  have sp1 := splice_row rn h8 lea
  have sp2 := splice_row rf h8 lea
  refine Nn.mk ⟨d.sn, Cell.lst r.blk rfl, ?_⟩
  generalize hin : i.toNat = iN at *
  generalize han : at_.toNat = aN at *
  subst ei ea
  refine pokeRow r.now r.wf.rn (by omega) hb lea fun w1 o1 x1 z1 => ?_
  have r1 : DiskR w1.heap d _ := r.setNow o1 x1 ⟨by simp [hn], by simp [r.wf.lo], by simp [r.wf.hi], set_rows r.wf.rn sp1, r.wf.rf, by simpa using r.wf.rw, r.wf.fl, r.wf.ct⟩
  have hb1 : RdB w1.heap b bs := Rd.extN hb x1 fun hne a c ha hc h => hfp (by simpa using hne) c (by simp [Sl.blk, ha, hc]) (.inr (.inl h))
  refine Nn.mk ⟨d.sf, Cell.lst r1.blk rfl, pokeRow r1.firm r1.wf.rf (by simp only; omega) hb1 lea fun w2 o2 x2 z2 => ?_⟩
  have r2 : DiskR w2.heap d _ := r1.setFirm o2 x2 ⟨by simp [hn], by simp [r.wf.lo], by simp [r.wf.hi], set_rows r.wf.rn sp1, set_rows r.wf.rf sp2, by simpa using r.wf.rw, r.wf.fl, r.wf.ct⟩
  refine k ⟨hh, h0, hle⟩ w2 ?_ ((x1.mono fun c _ h => .inr (.inl h)).trans (x2.mono fun c _ h => .inr (.inr (.inl h))) fun _ _ h => h) (by rw [z2, z1])
  have ed : foreignD D (iN : Int) ((aN : Int)).toNat bs = { D with now := D.now.set iN (splice (D.now.getD iN []) aN bs), firm := D.firm.set iN (splice (D.firm.getD iN []) aN bs) } := by
    simp [foreignD]
  simp only [Int.toNat_natCast] at ed
  first
    | exact r2
    | (rw [ed]; exact r2)
end
end Go.Proofs.Ytdgebnphgfbegaa
