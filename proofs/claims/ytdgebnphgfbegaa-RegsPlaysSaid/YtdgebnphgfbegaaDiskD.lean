/- Layer 8: Crash. -/
import Derived.Test.YtdgebnphgfbegaaDiskC
namespace Go.V.Dk
open Go.V
/-- The first j sectors are done. -/
def mixS (m : Int) (j : Nat) (old new : List Int) : List Int := (List.range 256).map fun i => if i / 64 < j then mixB m i (old.getD i 0) (new.getD i 0) else old.getD i 0
theorem mixS_len (m : Int) (j : Nat) (old new : List Int) : (mixS m j old new).length = 256 := by simp [mixS]
theorem mixS_row {m : Int} {j : Nat} {old new : List Int} (ho : Row old) (hn : Row new) : Row (mixS m j old new) := by
  refine ⟨mixS_len _ _ _ _, fun x hx => ?_⟩
  simp only [mixS, List.mem_map] at hx
  obtain ⟨i, _, rfl⟩ := hx
  split
  · unfold mixB; split
    · exact hn.2.get i
    · exact ho.2.get i
  · exact ho.2.get i
theorem mixS_zero {m : Int} {old new : List Int} (h : old.length = 256) : mixS m 0 old new = old := by
  apply List.ext_getElem (by rw [mixS_len, h])
  intro i h1 h2
  simp [mixS, List.getD, h2]
theorem mixS_four (m : Int) (old new : List Int) : mixS m 4 old new = mixR m old new := by
  unfold mixS mixR
  apply List.map_congr_left
  intro i hi
  rw [List.mem_range] at hi
  rw [if_pos (by omega)]
theorem mixS_skip {m : Int} {j : Nat} {old new : List Int} (h : m / 2 ^ j % 2 = 0) : mixS m (j + 1) old new = mixS m j old new := by
  unfold mixS
  apply List.map_congr_left
  intro i _
  by_cases h1 : i / 64 < j
  · rw [if_pos h1, if_pos (by omega)]
  · rw [if_neg h1]
    by_cases h2 : i / 64 < j + 1
    · rw [if_pos h2, mixB]
      have : i / 64 = j := by omega
      rw [this, if_neg (by omega)]
    · rw [if_neg h2]
theorem mixS_take {m : Int} {j : Nat} {old new : List Int} (hj : j < 4) (hn : new.length = 256) (h : m / 2 ^ j % 2 = 1) : mixS m (j + 1) old new = splice (mixS m j old new) (j * 64) ((new.drop (j * 64)).take 64) := by
  have hl : ((new.drop (j * 64)).take 64).length = 64 := by simp [hn]; omega
  unfold splice
  apply List.ext_getElem
  · rw [mixS_len, List.length_append, List.length_append, List.length_take, List.length_drop, mixS_len, hl]; omega
  · intro i h1 h2
    rw [mixS_len] at h1
    have hg : ∀ k (hk : k < (mixS m j old new).length), (mixS m j old new)[k] = if k / 64 < j then mixB m k (old.getD k 0) (new.getD k 0) else old.getD k 0 := fun k hk => by simp [mixS]
    have hg1 : (mixS m (j + 1) old new)[i]'(by rw [mixS_len]; exact h1) = if i / 64 < j + 1 then mixB m i (old.getD i 0) (new.getD i 0) else old.getD i 0 := by simp [mixS]
    rw [hg1]
    by_cases c1 : i < j * 64
    · rw [List.getElem_append_left (by rw [List.length_take, mixS_len]; omega), List.getElem_take, hg, if_pos (by omega), if_pos (by omega)]
    · rw [List.getElem_append_right (by rw [List.length_take, mixS_len]; omega)]
      have e : i - (List.take (j * 64) (mixS m j old new)).length = i - j * 64 := by rw [List.length_take, mixS_len]; omega
      by_cases c2 : i < j * 64 + 64
      · rw [List.getElem_append_left (by rw [hl]; omega)]
        simp only [e, List.getElem_take, List.getElem_drop]
        rw [if_pos (by omega), mixB, show i / 64 = j by omega, if_pos h]
        simp [List.getD, show j * 64 + (i - j * 64) = i by omega, show i < new.length by omega]
      · rw [List.getElem_append_right (by rw [hl]; omega)]
        simp only [e, hl, List.getElem_drop]
        rw [hg, if_neg (by omega), if_neg (by omega)]
        congr 1; omega
theorem crashF_nil (F : List (List Int)) (ws : List (Int × List Int)) : crashF F ws [] = F := by cases ws <;> rfl
end Go.V.Dk
namespace Go.V
theorem bitI_and1 {x : Int} (hx : 0 ≤ x ∧ x ≤ 255) : bitI .and .u8 x 1 = x % 2 := fin256 (p := fun x => bitI .and .u8 x 1 = x % 2) (by decide +kernel) hx
end Go.V
namespace Go.Proofs.Ytdgebnphgfbegaa
open Go.V Go.V.Dk
section
variable {w : World} {d : Dev} {D : DS}
theorem setSplice {l : List (List Int)} {i o : Nat} {vs : List Int} (h : ∀ x ∈ l, Row x) (hi : i < l.length) (ho : o + vs.length ≤ 256) : setL (l.flatMap blkC) (i * 256 + o) (vs.map (Value.int .u8)) = (l.set i (splice (l.getD i []) o vs)).flatMap blkC := by
  have e : l.getD i [] = l[i] := by simp [List.getD, hi]
  have hr := (h _ (List.getElem_mem hi)).1
  refine flat_set (blkC_len h) hi (by rw [List.length_map]; exact ho) ?_
  rw [setL_parts _ _ _ (by rw [List.length_map, blkC_len h _ (List.getElem_mem hi)]; exact ho), e]
  simp [blkC, splice, List.map_take, List.map_drop]
theorem set_set {l : List (List Int)} {i : Nat} {a b : List Int} : (l.set i a).set i b = l.set i b := by simp
theorem getD_set {l : List (List Int)} {i : Nat} {a : List Int} (hi : i < l.length) : (l.set i a).getD i [] = a := by simp [List.getD, hi]
theorem Cut.from {b off n : Nat} {lo hi : Nat} {K : Sl → Prop} (h1 : lo ≤ hi) (h2 : hi ≤ n) (h3 : lo < n) (k : K ⟨some ⟨b, off + lo, none⟩, hi - lo, n - lo⟩) : Cut ⟨some (Addr.mk b off none), n, n⟩ (lo : Int) (hi : Int) (((n : Nat) : Int)) 1 K := by
  refine Cut.mk (by omega) (by omega) (by omega) (by simp) ?_
  have e : cutA (some (Addr.mk b off none)) ((n : Int)).toNat ((lo : Int)).toNat 1 = some ⟨b, off + lo, none⟩ := by
    unfold cutA; rw [if_neg (by simp; omega)]; simp [addr_add_none]
  simp only [e]
  rw [show ((hi : Int) - (lo : Int)).toNat = hi - lo by omega, show ((n : Int) - (lo : Int)).toNat = n - lo by omega]
  exact k
theorem drop_cons {α : Type} {l : List α} {k : Nat} (h : k < l.length) : l.drop k = l[k] :: l.drop (k + 1) := List.drop_eq_getElem_cons h
theorem firm_wf {F : List (List Int)} (h : WF D) (hl : F.length = D.now.length) (hr : ∀ r ∈ F, Row r) : WF { D with firm := F } := ⟨hl, h.lo, h.hi, h.rn, hr, h.rw, h.fl, h.ct⟩
set_option maxRecDepth 20000 in
/-- One sector of a write comes through. -/
theorem sector {w4 : World} {F : List (List Int)} {b : Nat} {p : Int × List Int} {j : Nat} {m : Int} {K : World → Prop} (r : DiskR w4.heap d { D with firm := F.set p.1.toNat (mixS m j (F.getD p.1.toNat []) p.2) })
    (hF : F.length = D.now.length) (hr : ∀ x ∈ F, Row x) (hp : 0 ≤ p.1 ∧ p.1 < D.now.length ∧ Row p.2) (hb : w4.heap[b]? = some (.cells (wtC p).toArray 87 (0, 0))) (hbf : d.sf.blk ≠ some b) (hj : j < 4) (hm : m / 2 ^ j % 2 = 1)
    (k : ∀ w5, DiskR w5.heap d { D with firm := F.set p.1.toNat (mixS m (j + 1) (F.getD p.1.toNat []) p.2) } → w5.heap[b]? = some (.cells (wtC p).toArray 87 (0, 0)) → Ext (fun i => d.sf.blk = some i) w4 w5 → K w5) :
    ∃ S : World → Prop, S (drewW w4) ∧ Nn d.p fun a_3 => ∃ vv_2 : Sl, Held S (a_3.add 1) (.slice vv_2.a vv_2.len vv_2.cap) ∧ ∃ vv_3 : Int, Held S (Addr.mk b 0 none) (.int .i64 vv_3) ∧ Ix vv_2.a vv_2.len vv_3 256 fun a_4 =>
      Ar .i64 ((j : Int) * 64) fun z_2 => Ar .i64 ((j : Int) + 1) fun z_3 => Ar .i64 (z_3 * 64) fun z_4 => Cut ⟨some a_4, 256, 256⟩ z_2 z_4 (((256 : Nat) : Int)) 1 fun s => Ar .i64 ((j : Int) * 64) fun z_5 =>
      Cut ⟨some ((Addr.mk b 0 none).add 1), 256, 256⟩ z_5 (((256 : Nat) : Int)) (((256 : Nat) : Int)) 1 fun s_1 => CopyW Try.prog 23 23 s (.slice s_1.a s_1.len s_1.cap) (fun _z_6 w5 => S w5 ∧ K w5) (drewW w4) := by
  have hlf := r.lf
  simp only at hlf
  refine ⟨Ext (fun i => d.sf.blk = some i) w4, (Ext.refl _ _).drew, Nn.mk ⟨d.sf, Held.but (Cell.lst r.blk rfl) r.nb.2.1, p.1, Held.but (Cell.lst hb rfl) hbf, ?_⟩⟩
  have hF1 : (F.set p.1.toNat (mixS m j (F.getD p.1.toNat []) p.2)).length = D.now.length := by rw [List.length_set]; exact hF
  have o1 : Own (drewW w4).heap 0 T_disk_block 256 d.sf ((F.set p.1.toNat (mixS m j (F.getD p.1.toNat []) p.2)).flatMap blkC) := r.firm
  have rows1 := r.wf.rf
  simp only at rows1
  have fl := flat_len' (blkC_len rows1)
  have hlt : p.1.toNat * 256 + 256 ≤ ((F.set p.1.toNat (mixS m j (F.getD p.1.toNat []) p.2)).flatMap blkC).length := by rw [fl, hF1]; omega
  obtain ⟨bf, rest, ha, hba, hbk, hc, hcap⟩ := o1.place (by intro h; rw [h] at hlt; simp at hlt)
  refine ⟨_, ha, hp.1, by omega, ?_⟩
  rw [show (⟨bf, 0, none⟩ : Addr).add (p.1.toNat * 256) = ⟨bf, p.1.toNat * 256, none⟩ by rw [addr_add_none rfl]; simp]
  refine Ar.i64 (by omega) (Ar.i64 (by omega) (Ar.i64 (by omega) ?_))
  rw [show (j : Int) * 64 = ((j * 64 : Nat) : Int) by omega, show ((j : Int) + 1) * 64 = ((j * 64 + 64 : Nat) : Int) by omega]
  refine Cut.from (b := bf) (off := p.1.toNat * 256) (n := 256) (lo := j * 64) (hi := j * 64 + 64) (by omega) (by omega) (by omega) ?_
  refine Ar.i64 (by omega) ?_
  show Cut ⟨some (Addr.mk b 1 none), 256, 256⟩ ((j * 64 : Nat) : Int) (((256 : Nat) : Int)) (((256 : Nat) : Int)) 1 _
  refine Cut.from (b := b) (off := 1) (n := 256) (lo := j * 64) (hi := 256) (by omega) (by omega) (by omega) ?_
  have hb' : (drewW w4).heap[b]? = some (.cells (wtC p).toArray 87 (0, 0)) := hb
  have hx : Rd (drewW w4).heap ⟨some ⟨b, 1 + j * 64, none⟩, 256 - j * 64, 256 - j * 64⟩ 1 ((p.2.drop (j * 64)).map (Value.int .u8)) := by
    have hp2 := hp.2.2.1
    refine ⟨by simp [hp2], Nat.le_refl _, fun _ => ⟨b, 1 + j * 64, rfl, fun i hi => ?_⟩, oneC_ints⟩
    unfold hcell; rw [hb']
    have hi' : i < 256 - j * 64 := by simpa [hp2] using hi
    simp only [wtC, List.getElem?_toArray]
    rw [show 1 + j * 64 + i = (j * 64 + i) + 1 by omega, List.getElem?_cons_succ]
    simp [show j * 64 + i < p.2.length by omega]
  refine copy_uint8 (x := ⟨some ⟨b, 1 + j * 64, none⟩, 256 - j * 64, 256 - j * 64⟩) rfl hbk hx (by rw [List.length_append]; simp only; omega) fun w5 hw5 => ?_
  have et : ((p.2.drop (j * 64)).map (Value.int .u8)).take (min (256 - j * 64) (j * 64 + 64 - j * 64) * 1) = ((p.2.drop (j * 64)).take 64).map (Value.int .u8) := by
    rw [show min (256 - j * 64) (j * 64 + 64 - j * 64) * 1 = 64 by omega, List.map_take]
  simp only [et] at hw5
  have l64 : ((p.2.drop (j * 64)).take 64).length = 64 := by have := hp.2.2.1; simp [this]; omega
  obtain ⟨o5, x5, z5⟩ := o1.upd ha hba hbk hc hcap hw5 oneC_ints (by rw [List.length_map, l64]; omega)
  rw [setSplice rows1 (by rw [hF1]; omega) (by rw [l64]; omega), set_set, getD_set (by omega), ← mixS_take hj hp.2.2.1 hm] at o5
  have x5' : Ext (fun i => d.sf.blk = some i) w4 w5 := x5.drew_left
  have r5 := r.setFirm o5 x5' ⟨by simp only [List.length_set]; exact hF, r.wf.lo, r.wf.hi, r.wf.rn, set_rows hr (mixS_row (getD_row hr (by omega)) hp.2.2), r.wf.rw, r.wf.fl, r.wf.ct⟩
  exact ⟨x5', k w5 r5 (by rw [x5'.blk _ (blt hb) hbf]; exact hb) x5'⟩
end
end Go.Proofs.Ytdgebnphgfbegaa
