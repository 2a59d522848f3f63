/- Layer 7: the laws' walks. -/
import Derived.Test.YtbkhcmldclgkoaaPackC
import Derived.Test.YtbkhcmldclgkoaaPackPlainB
namespace Go.Proofs.Ytbkhcmldclgkoaa
open Go.V Go.V.Pk
theorem packTexts_spec {b : Sl} {w : World} {l : List Int} (hb : RdB w.heap b l) (h8 : B8 l) : C_law07_PackTexts b w fun r w' => r = true ∧ Ext No w w' := by
  apply S_law07_PackTexts
  have hlb := hb.len
  refine If.dec (fun _ => known_spec fun w' ext => ⟨rfl, ext⟩) (fun hle => ?_)
  refine copy_spec hb (by omega) fun s1 w2 own1 ext1 => text_spec own1.rd (by omega) fun s2 w3 own2 ext2 => refText_spec (hb.no (ext1.no ext2)) (by omega) fun s3 w4 own3 ext3 =>
    same_spec (own2.no ext3).rd own3.rd ((numB_b8 _).append h8) ((numB_b8 _).append h8) ?_
  rw [decide_eq_true rfl]
  have hs2 := own2.len
  have h10 := numB_len10 (n := l.length) (by omega)
  rw [List.length_append] at hs2
  refine ⟨fun m t w' => ∃ j : Nat, t = j ∧ m = s2.len - j ∧ j ≤ s2.len ∧ (∃ l2, OwnB w'.heap w2.heap.size s2 l2) ∧ OwnB w'.heap w.heap.size s1 l ∧ Ext No w w',
    ⟨_, 0, rfl, rfl, Nat.zero_le _, ⟨_, own2.no ext3⟩, own1.no (ext2.no ext3), (ext1.no ext2).no ext3⟩, ?_⟩
  rintro _ m t w6 ⟨j, rfl, rfl, hj, ⟨l2, o2⟩, o1, ext⟩
  refine If.dec (fun hlt => ?_) (fun hge => ?_)
  · refine St1.own o2 (by omega) (by omega) rfl fun w7 o2' ext7 _ => Ar.i64 (by omega) ⟨_, ?_, j + 1, by omega, rfl, by omega, ⟨l2.set (j : Int).toNat 7, ?_⟩, o1.ext ext7 fun b hb1 hb2 => ?_, ext.trans ext7 fun i hi hbi => ?_⟩
    · omega
    · show Own _ _ _ _ _ _
      rw [List.map_set]; exact o2'
    · have := (own1.lt hb1).2
      have := (own2.lt hb2).1
      omega
    · have := (own2.lt hbi).1
      have := ext1.size
      omega
  · refine same_spec o1.rd (hb.no ext) h8 h8 ?_
    rw [decide_eq_true rfl]
    exact known_spec fun w' ext' => ⟨rfl, ext.no ext'⟩
theorem packNone_spec {most : Int} {w : World} : C_law07_PackNone most w fun r w' => r = true ∧ Ext No w w' := by
  apply S_law07_PackNone
  refine S_pack_Reader_Done (show If (Option.isNone none) _ _ from ?_)
  refine S_pack_Reader_Num (S_pack_Reader_ok (show If _ _ _ from ?_))
  refine S_pack_Reader_Byte (S_pack_Reader_ok (show If _ _ _ from ?_))
  refine S_pack_Reader_Text (S_pack_Reader_ok (show If _ _ _ from ?_))
  refine S_pack_Reader_Left (show If (Option.isNone none) _ _ from ?_)
  exact known_spec fun w' ext => ⟨rfl, ext⟩
theorem rNum_cases (l : List Int) (at_ : Nat) (f : Int) (hb : B8 l) (hle : at_ ≤ l.length) : ((rNum l at_ f).2.1 = at_) ∨
    (at_ < (rNum l at_ f).2.1 ∧ (rNum l at_ f).2.1 ≤ l.length ∧ 0 ≤ (rNum l at_ f).1 ∧ (rNum l at_ f).1 ≤ 18446744073709551615 ∧ (l.drop at_).take ((rNum l at_ f).2.1 - at_) = numB (rNum l at_ f).1.toNat) := by
  have hle2 := rNum_le l at_ f hle
  by_cases hf : f ≠ 0
  · left; simp [rNum, hf]
  · by_cases he : (tk 0 0 (l.drop at_)).2.2 ≠ 0
    · left; simp only [rNum]; rw [if_neg hf, if_pos he]
    · right
      have e : rNum l at_ f = ((tk 0 0 (l.drop at_)).1, at_ + (tk 0 0 (l.drop at_)).2.1, 0) := by simp only [rNum]; rw [if_neg hf, if_neg he]
      rw [e] at hle2 ⊢
      obtain ⟨m, h1, h2, h3, _, h5⟩ := tk_only (l.drop at_) 0 0 (hb.drop _) (by simpa using he)
      have h6 := h5 (by omega)
      simp only [Int.pow_zero, Int.mul_one, Int.zero_add, Nat.pow_zero, Nat.mul_one, Nat.sub_zero] at h1 h3 h6
      refine ⟨by simp only; omega, hle2, by simp only; omega, by simp only; omega, ?_⟩
      simp only [Nat.add_sub_cancel_left, h1, Int.toNat_natCast]
      exact h3
theorem packOnly_spec {b : Sl} {w : World} {l : List Int} (hb : RdB w.heap b l) (h8 : B8 l) : C_law07_PackOnly b w fun r w' => r = true ∧ Ext No w w' := by
  apply S_law07_PackOnly
  have hlb := hb.len
  have hcap := hb.cap
  refine If.dec (fun _ => known_spec fun w' ext => ⟨rfl, ext⟩) (fun hle => ?_)
  refine newReader_spec hb h8 (by omega) fun rb s w2 r hrb hsb ext => ?_
  refine ⟨fun t w' => Ext No w w' ∧ ∃ j, j ≤ l.length ∧ OwnB w'.heap w2.heap.size t (l.take j), ⟨fun m t i w' => ∃ j : Nat, i = j ∧ m = l.length + 1 - j ∧ j ≤ l.length + 1 ∧ ∃ a f, Rdr w'.heap rb s l a f ∧ OwnB w'.heap w2.heap.size t (l.take a) ∧ Ext No w w' ∧ w2.heap.size ≤ w'.heap.size,
    ⟨_, 0, rfl, rfl, by omega, 0, 0, r, Own.nil _ _ _ _, ext, Nat.le_refl _⟩, ?_⟩, ?_⟩
  · rintro _ m t i w3 ⟨j, rfl, rfl, hj, a, f, r3, own, ext3, hsz⟩
    have ha := r3.le
    refine If.dec (fun hi => ?_) (fun hi => ⟨ext3, a, ha, own⟩)
    refine readerLeft_spec r3 fun w4 hh4 ext4 => readerNum_spec (r3.no ext4) fun w5 r5 ext5 hs5 => readerLeft_spec r5 fun w6 hh6 ext6 => ?_
    have extA : Ext (· = rb) w3 w6 := (Ext.of_no ext4).trans (ext5.no ext6) fun _ _ h => h
    have rb2 : rb < w2.heap.size := by
      obtain ⟨T, hT⟩ := r.blk
      exact (Array.getElem?_eq_some_iff.1 hT).1
    have own6 : OwnB w6.heap w2.heap.size t (l.take a) := own.ext extA fun i hi e => by have := (own.lt hi).1; omega
    have extw : Ext No w w6 := ext3.trans extA fun i hi e => by omega
    rcases rNum_cases l a f h8 ha with hc | ⟨h1, h2, h3, h4, h5⟩
    · rw [hc]
      exact If.beq (fun _ => ⟨extw, a, ha, own6⟩) (fun h => absurd rfl h)
    · refine If.beq (fun h => by omega) (fun _ => ?_)
      refine num_spec h3 h4 fun x w7 ownx ext7 => readerLeft_spec (r5.no (ext6.no ext7)) fun w8 hh8 ext8 => ?_
      have hx := ownx.len
      have hlen : (numB (rNum l a f).1.toNat).length = (rNum l a f).2.1 - a := by
        rw [← h5, List.length_take, List.length_drop]; omega
      have h10 := numB_len10 (n := (rNum l a f).1.toNat) (by omega)
      refine Ar.i64 (by omega) (If.bne (fun h => by omega) (fun _ => If.dec (fun h => by omega) (fun _ => ?_)))
      have own8 := own6.no (ext7.no ext8)
      have ht : t.len = (l.take a).length := OwnB.len own8
      have hta : (l.take a).length ≤ 4096 := by rw [List.length_take]; omega
      have := extA.size
      have := ext7.size
      have := ext8.size
      refine app_uint8 own8 (by omega) (ownx.no ext8).rd.src (by omega) fun t' w9 own9 _ ext9 _ => Ar.i64 (by omega) ⟨_, ?_, j + 1, by omega, rfl, by omega, (rNum l a f).2.1, (rNum l a f).2.2, ?_, ?_, ?_, ?_⟩
      · omega
      · refine (r5.no ((ext6.no ext7).no ext8)).ext ext9 (fun e => by have := (own8.lt e).1; omega) fun i hi e => ?_
        have h1 := (own8.lt e).1
        have h2 := (hsb i hi).2
        omega
      · have e : l.take (rNum l a f).2.1 = l.take a ++ numB (rNum l a f).1.toNat := by
          rw [← h5]
          have : (rNum l a f).2.1 = a + ((rNum l a f).2.1 - a) := by omega
          rw [this, List.take_add]
          congr 3
        rw [e]
        simpa [OwnB] using own9
      · exact ((extw.no ext7).no ext8).trans ext9 fun i hi e => by
          have := (own8.lt e).1
          have := ext.size
          omega
      · have := ext9.size
        omega
  · rintro _ t w10 ⟨extw, j, hj, own⟩
    refine ⟨Ext No w10, (Ext.refl _ _).drew, StrC.mk own.rd (fun b o v h => Held.no h) ?_⟩
    have hlt := own.len
    rw [List.length_take] at hlt
    have hb10 := hb.no extw
    refine Cut.mk (by omega) (by omega) (by omega) (by omega) ?_
    have hcut := hb10.cut (lo := 0) (hi := t.len) (mx := b.cap) (Nat.zero_le _) (by omega) (by omega)
    simp only [Int.toNat_zero, Int.toNat_natCast, Int.sub_zero]
    have e1 : t.len = j := by omega
    simp only [List.drop_zero, Nat.sub_zero, Nat.mul_one, ← List.map_take] at hcut
    refine StrC.mk (w := w10) (l := l.take t.len) hcut (fun b o v h => Held.no h) ?_
    rw [toList_mk, toList_mk, e1]
    refine If.cases (fun _ => known_spec fun w' ext' => ⟨(Ext.refl No w10).drew.no ext', rfl, extw.drew.no ext'⟩) (fun h => ?_)
    simp at h
end Go.Proofs.Ytbkhcmldclgkoaa
