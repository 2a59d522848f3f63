/- Layer 7: the document's answer, and small helpers. -/
import Derived.Test.YtbkhcmldclgkoaaPackB
namespace Go.Proofs.Ytbkhcmldclgkoaa
open Go.V Go.V.Pk
theorem copy_uint8 {w : World} {d x : Sl} {b off : Nat} {row xs : List Value} {T : TypeId} {K : Int → World → Prop} (hd : d.a = some ⟨b, off, none⟩) (hb : w.heap[b]? = some (.cells row.toArray T (0, 0))) (hx : Rd w.heap x 1 xs)
    (hle : off + min x.len d.len * 1 ≤ row.length) (hk : ∀ w', Wrt w b (.cells (setL row off (xs.take (min x.len d.len * 1))).toArray T (0, 0)) w' → K (min x.len d.len : Nat) w') : CopyW Try.prog T_sl_uint8 T_sl_uint8 d x.v K w :=
  copy_at (P := Try.prog) (e := T_uint8) (ie := Try.t5) (by kernel_rfl) (by kernel_rfl) (by kernel_rfl) hd hb hx hle hk
theorem copy_spec {b : Sl} {w : World} {K : Sl → World → Prop} {l : List Int} (hb : RdB w.heap b l) (hl : l.length ≤ 140737488355328)
    (k : ∀ s w', OwnB w'.heap w.heap.size s l → Ext No w w' → K s w') : C_ref01_Copy b w K := by
  apply S_ref01_Copy
  have hlb := hb.len
  refine Ar.i64 (by omega) (MkW.mk (by omega) (by omega) (by omega) (by omega) fun i w1 new => ?_)
  have e1 : ((b.len : Int) + 3).toNat = b.len + 3 := by omega
  simp only [e1, Int.toNat_natCast] at new ⊢
  have hx := (hb.no new.ext)
  refine copy_uint8 rfl new.get hx (by simp) fun w2 hw => ?_
  refine k _ w2 ?_ (new.ext.trans hw.ext fun j hj e => by subst e; have := new.at_; omega)
  simp only [Nat.min_self, Nat.mul_one] at hw
  have ht : (l.map (Value.int .u8)).take b.len = l.map (Value.int .u8) := List.take_of_length_le (by simp; omega)
  rw [ht] at hw
  refine ⟨by simpa using hlb.symm, .inr ⟨i, List.replicate 3 (.int .u8 0), rfl, by rw [new.at_]; exact Nat.le_refl _, ?_, by simp; omega, by simp⟩, oneC_ints⟩
  rw [hw.get new.get, setL_eq _ _ _ (by simp; omega)]
  congr 2
  simp only [List.take_zero, List.nil_append, Nat.zero_add, List.length_map, ← hlb]
  congr 1
  have : (List.replicate (b.len + 3) [Value.int IntKind.u8 0]).flatten = List.replicate (b.len + 3) (Value.int IntKind.u8 0) := by
    simp
  rw [this, List.drop_replicate]
  rw [Nat.add_sub_cancel_left]
theorem text_spec {b : Sl} {w : World} {K : Sl → World → Prop} {l : List Int} (hb : RdB w.heap b l) (hl : l.length ≤ 70368744177664)
    (k : ∀ s w', OwnB w'.heap w.heap.size s (numB l.length ++ l) → Ext No w w' → K s w') : C_pack_Text b w K := by
  apply S_pack_Text
  have hlb := hb.len
  refine Ar.u64 (by omega) (num_spec (by omega) (by omega) fun s w1 own ext => ?_)
  have hs := own.len
  have h10 := numB_len10 (n := ((b.len : Int)).toNat) (by omega)
  refine app_uint8 own ext.size (hb.no ext).src (by omega) fun s' w2 own' _ ext' _ => ?_
  refine k s' w2 ?_ (ext.trans ext' fun i hi hbi => by have := (own.lt hbi).1; omega)
  have e : ((b.len : Int)).toNat = l.length := by omega
  rw [e] at own'
  simpa [OwnB] using own'
theorem refText_spec {b : Sl} {w : World} {K : Sl → World → Prop} {l : List Int} (hb : RdB w.heap b l) (hl : l.length ≤ 70368744177664)
    (k : ∀ s w', OwnB w'.heap w.heap.size s (numB l.length ++ l) → Ext No w w' → K s w') : C_ref07_Text b w K := by
  apply S_ref07_Text
  have hlb := hb.len
  refine Ar.u64 (by omega) (refNum_spec _ (Nat.le_refl _) (by omega) (by omega) fun s w1 own ext => ?_)
  have h10 := numB_len10 (n := ((b.len : Int)).toNat) (by omega)
  have e : ((b.len : Int)).toNat = l.length := by omega
  rw [e] at own h10
  refine ⟨fun m t i w' => ∃ j : Nat, i = j ∧ m = l.length - j ∧ j ≤ l.length ∧ OwnB w'.heap w.heap.size t (numB l.length ++ l.take j) ∧ Ext No w w', ⟨_, 0, rfl, rfl, Nat.zero_le _, by simpa using own, ext⟩, ?_⟩
  rintro _ m t i w2 ⟨j, rfl, rfl, hj, own, ext⟩
  refine If.dec (fun hlt => ?_) (fun hge => ?_)
  · refine Ix.int (hb.no ext) (by omega) (by omega) fun _ _ _ ha => ⟨_, ha, fun b1 w3 new => ?_⟩
    have hs := own.len
    refine app_uint8 (own.no new.ext) (by have := new.ext.size; have := ext.size; omega) ((Own.new (sz := 1) (n := 1) new rfl (by simp [oneC])).rd.src) (by simp at hs ⊢; omega) fun s' w4 own' _ ext' _ => ?_
    refine Ar.i64 (by omega) ⟨_, ?_, j + 1, by omega, rfl, by omega, ?_, (ext.no new.ext).trans ext' fun i hi hbi => by have := (own.lt hbi).1; omega⟩
    · omega
    · have : l.take (j + 1) = l.take j ++ [l.getD j 0] := by
        rw [List.take_succ_eq_append_getElem (by omega)]
        simp [List.getD, List.getElem?_eq_getElem (show j < l.length by omega)]
      rw [this]
      simpa [OwnB] using own'
  · have : l.take j = l := List.take_of_length_le (by omega)
    rw [this] at own
    exact k t w2 own ext
theorem taken_spec {b : Sl} {w : World} {K : Int → Int → Int → World → Prop} {l : List Int} (hb : RdB w.heap b l) (h8 : B8 l) (hlen : l.length ≤ 4611686018427387904)
    (k : K (tk 0 0 l).1 (tk 0 0 l).2.1 (tk 0 0 l).2.2 w) : C_ref07_Taken b w K := by
  apply S_ref07_Taken
  have hlb := hb.len
  refine ⟨fun m n by_ i w' => w' = w ∧ ∃ j : Nat, i = j ∧ m = 10 - j ∧ j ≤ 9 ∧ j ≤ l.length ∧ 0 ≤ n ∧ n < 128 ^ j ∧ by_ = 128 ^ j ∧ tk 0 0 l = tk j n (l.drop j),
    ⟨_, rfl, 0, rfl, rfl, by omega, by omega, by omega, by decide, by decide, rfl⟩, ?_⟩
  rintro _ m n by_ i w1 ⟨rfl, j, rfl, rfl, hj, hle, hn0, hn1, rfl, ht⟩
  refine If.dec (fun hlt => ?_) (fun hge => ?_)
  · have hdrop : l.drop j = l.getD (j : Int).toNat 0 :: l.drop (j + 1) := by
      have e : (j : Int).toNat = j := by omega
      rw [e, List.drop_eq_getElem_cons (by omega)]
      simp [List.getD, List.getElem?_eq_getElem (show j < l.length by omega)]
    have hx := h8.get (j : Int).toNat
    have hix : ∀ {C : Addr → Prop}, (∀ i o, b.blk = some i → Cell w1 ⟨i, o, none⟩ (.int .u8 (l.getD (j : Int).toNat 0)) → C ⟨i, o, none⟩) → Ix b.a b.len j 1 C := fun hC => Ix.int hb (by omega) (by omega) hC
    generalize l.getD (j : Int).toNat 0 = x at *
    rw [hdrop, tk_cons] at ht
    refine ⟨fun w2 => w2 = w1 ∧ ¬ (j = 9 ∧ x > 1), ?_, ?_⟩
    · refine If.beq (fun h => hix fun _ _ _ ha => ⟨_, ha, If.dec (fun h1 => ?_) (fun h1 => ⟨rfl, fun h2 => h1 h2.2⟩)⟩) (fun h => ⟨rfl, fun h2 => h (by omega)⟩)
      rw [if_pos ⟨by omega, h1⟩] at ht
      simp only [ht] at k
      exact k
    · rintro _ w2 ⟨rfl, hno⟩
      rw [if_neg hno] at ht
      have hpp : (0 : Int) < 128 ^ j := Int.pow_pos (by omega)
      have hbig : x % 128 * 128 ^ j + n ≤ 18446744073709551615 ∧ (j ≠ 9 → (128 : Int) ^ j * 128 ≤ 9223372036854775808) := by
        rw [pow128]
        rw [pow128] at hn1
        by_cases h : j = 9
        · subst h
          have : x % 128 ≤ 1 := by omega
          have : x % 128 * 2 ^ (7 * 9) ≤ 1 * 2 ^ (7 * 9) := Int.mul_le_mul_of_nonneg_right this (by decide)
          have e : (2 : Int) ^ (7 * 9) = 9223372036854775808 := by decide
          exact ⟨by omega, fun h => absurd rfl h⟩
        · have : 7 * j ≤ 56 := by omega
          have h1 : (2 : Int) ^ (7 * j) ≤ 2 ^ 56 := pow2_le this
          have e : (2 : Int) ^ 56 = 72057594037927936 := by decide
          rw [pow128] at hpp
          have : x % 128 * 2 ^ (7 * j) ≤ 127 * 2 ^ (7 * j) := Int.mul_le_mul_of_nonneg_right (by omega) (by omega)
          exact ⟨by omega, fun _ => by omega⟩
      have hnn : 0 ≤ x % 128 * 128 ^ j := Int.mul_nonneg (by omega) (by omega)
      refine hix fun _ _ _ ha => ⟨_, ha, by decide, Nm.as (Int.tmod_eq_emod_of_nonneg hx.1) (Ar.u64 (by omega) (Ar.u64 (by omega) (Ar.u64 (by omega) fun z4 hz4 => ?_)))⟩
      refine hix fun _ _ _ ha => ⟨_, ha, If.dec (fun h1 => ?_) (fun h1 => ?_)⟩
      · rw [if_pos h1] at ht
        have hj9 : j ≠ 9 := by omega
        refine Ar.i64 (by omega) ⟨_, ?_, rfl, j + 1, by omega, rfl, by omega, by omega, by omega, ?_, ?_, ht⟩
        · omega
        · have : x % 128 * 128 ^ j ≤ 127 * 128 ^ j := Int.mul_le_mul_of_nonneg_right (by omega) (by omega)
          rw [Int.pow_succ]; omega
        · rw [hz4, wrap_u64, Int.pow_succ]
          have := hbig.2 hj9
          exact Int.emod_eq_of_lt (by omega) (by omega)
      · rw [if_neg h1] at ht
        refine hix fun _ _ _ ha => ⟨_, ha, If.beq (fun h => If.dec (fun h2 => ?_) (fun h2 => ?_)) (fun h => ?_)⟩
        · rw [if_pos ⟨h, by omega⟩] at ht
          simp only [ht] at k
          exact k
        · rw [if_neg (fun h3 => h2 (by omega))] at ht
          simp only [ht] at k
          exact Ar.i64 (by omega) k
        · rw [if_neg (fun h3 => h h3.1)] at ht
          simp only [ht] at k
          exact Ar.i64 (by omega) k
  · have : l.drop j = [] := List.drop_of_length_le (by omega)
    rw [this] at ht
    simp only [ht, tk] at k
    exact k
section
variable {w : World} {rb : Nat} {s : Sl} {l : List Int} {at_ : Nat} {f : Int}
theorem refReaderNum_spec {K : Int → World → Prop} (r : Rdr w.heap rb s l at_ f)
    (k : ∀ w', Rdr w'.heap rb s l (rNum l at_ f).2.1 (rNum l at_ f).2.2 → Ext (· = rb) w w' → w'.heap.size = w.heap.size → K (rNum l at_ f).1 w') : C_ref07_Reader_Num (some ⟨rb, 0, none⟩) w K := by
  apply S_ref07_Reader_Num
  obtain ⟨T, hT⟩ := r.blk
  have hs := r.rd.len
  have hlen := r.len
  have hle := r.le
  have hcap := r.rd.cap
  refine Nn.mk ⟨_, Cell.lst hT rfl, If.bne (fun hf => ?_) (fun hf => ?_)⟩
  · have e : rNum l at_ f = (0, at_, f) := by simp [rNum, hf]
    rw [e] at k
    exact k w r (Ext.refl _ _) rfl
  · subst hf
    refine ⟨Ext No w, (Ext.refl _ _).drew, Nn.mk ⟨_, Held.cell (Cell.lst hT rfl), Nn.mk ⟨_, Held.cell (Cell.lst hT rfl), Cut.mk (by omega) (by omega) (by omega) (by omega) ?_⟩⟩⟩
    have hcut := r.rd.cut (lo := at_) (hi := s.len) (mx := s.cap) (by omega) (by omega) (by omega)
    have e3 : (((s.len : Nat) : Int) - (at_ : Int)).toNat = s.len - at_ := by omega
    have e4 : (((s.cap : Nat) : Int) - (at_ : Int)).toNat = s.cap - at_ := by omega
    simp only [Int.toNat_natCast, e3, e4]
    have hd : RdB (drewW w).heap ⟨cutA s.a s.cap at_ 1, s.len - at_, s.cap - at_⟩ (l.drop at_) := by
      have e5 : List.take (s.len - at_) (List.drop at_ l) = List.drop at_ l := List.take_of_length_le (by simp; omega)
      have := hcut
      simp only [Nat.mul_one, ← List.map_drop, ← List.map_take, e5] at this
      exact this
    have htk := tk_fault (l.drop at_) 0 0
    refine taken_spec hd (r.rng.drop _) (by simp; omega) ⟨(Ext.refl _ _).drew, Nn.mk (St1.mk (w := drewW w) hT (by simp) rfl fun w1 hw => ?_)⟩
    have r1 : Rdr w1.heap rb s l at_ (tk 0 0 (l.drop at_)).2.2 := Rdr.set (w := drewW w) (r.no (Ext.refl _ _).drew) hw hle
    obtain ⟨T1, hT1⟩ := r1.blk
    have hr : rNum l at_ 0 = if (tk 0 0 (l.drop at_)).2.2 ≠ 0 then (0, at_, (tk 0 0 (l.drop at_)).2.2) else ((tk 0 0 (l.drop at_)).1, at_ + (tk 0 0 (l.drop at_)).2.1, 0) := rfl
    simp only [List.length_drop] at htk
    have key : at_ + (tk 0 0 (l.drop at_)).2.1 ≤ l.length ∧ rNum l at_ 0 = ((tk 0 0 (l.drop at_)).1, at_ + (tk 0 0 (l.drop at_)).2.1, (tk 0 0 (l.drop at_)).2.2) := by
      rcases htk with ⟨h1, h2, h3⟩ | ⟨h1, h2, h3⟩
      · rw [hr, if_neg (by simp [h1]), h1]; exact ⟨by omega, rfl⟩
      · rw [hr, if_pos h1, h2, h3]; exact ⟨by omega, rfl⟩
    rw [key.2] at k
    refine Nn.mk ⟨_, Cell.lst hT1 rfl, Ar.i64 (by omega) (Nn.mk (St1.mk hT1 (by simp) rfl fun w2 hw2 => ?_))⟩
    refine k w2 (r1.set (T := T1) ?_ key.1) ((hw.ext.drew_left).trans hw2.ext fun _ _ h => h) (by rw [hw2.size, hw.size]; rfl)
    have e6 : (at_ : Int) + ((tk 0 0 (l.drop at_)).2.1 : Int) = ((at_ + (tk 0 0 (l.drop at_)).2.1 : Nat) : Int) := by omega
    rw [e6] at hw2
    exact hw2
theorem refReaderByte_spec {K : Int → World → Prop} (r : Rdr w.heap rb s l at_ f)
    (k : ∀ w', Rdr w'.heap rb s l (rByte l at_ f).2.1 (rByte l at_ f).2.2 → Ext (· = rb) w w' → w'.heap.size = w.heap.size → K (rByte l at_ f).1 w') : C_ref07_Reader_Byte (some ⟨rb, 0, none⟩) w K := by
  apply S_ref07_Reader_Byte
  obtain ⟨T, hT⟩ := r.blk
  have hs := r.rd.len
  have hlen := r.len
  have hle := r.le
  refine Nn.mk ⟨_, Cell.lst hT rfl, If.bne (fun hf => ?_) (fun hf => ?_)⟩
  · have e : rByte l at_ f = (0, at_, f) := by simp [rByte, hf]
    rw [e] at k
    exact k w r (Ext.refl _ _) rfl
  · refine ⟨Ext No w, (Ext.refl _ _).drew, Nn.mk ⟨_, Held.cell (Cell.lst hT rfl), Nn.mk ⟨_, Held.cell (Cell.lst hT rfl), If.beq (fun he => ?_) (fun he => ?_)⟩⟩⟩
    · have e : rByte l at_ f = (0, at_, 4) := by simp only [rByte, hf]; rw [if_neg (by simp), if_pos (by omega)]
      rw [e] at k
      exact Nn.mk (St1.mk (w := drewW w) hT (by simp) rfl fun w' hw => k w' (Rdr.set (w := drewW w) (r.no (Ext.refl _ _).drew) hw r.le) hw.ext.drew_left hw.size)
    · have e : rByte l at_ f = (l.getD at_ 0, at_ + 1, 0) := by simp only [rByte, hf]; rw [if_neg (by simp), if_neg (by omega)]
      rw [e] at k
      refine Nn.mk ⟨_, Cell.lst (w := drewW w) hT rfl, Ar.i64 (by omega) (Nn.mk (St1.mk (w := drewW w) hT (by simp) rfl fun w' hw => ?_))⟩
      have r' : Rdr w'.heap rb s l (at_ + 1) 0 := by
        subst hf
        exact Rdr.set (w := drewW w) (r.no (Ext.refl _ _).drew) hw (by omega)
      obtain ⟨T', hT'⟩ := r'.blk
      refine ⟨Ext No w', (Ext.refl _ _).drew, Nn.mk ⟨_, Held.cell (Cell.lst hT' rfl), Nn.mk ⟨_, Held.cell (Cell.lst hT' rfl), Ar.i64 (by omega) (Ix.int r'.rd (by omega) (by omega) fun _ _ _ ha => ⟨_, Held.cell ha, ?_⟩)⟩⟩⟩
      have e2 : (((at_ + 1 : Nat) : Int) - 1).toNat = at_ := by omega
      rw [e2]
      exact k (drewW w') (r'.no (Ext.refl _ _).drew) hw.ext.drew_left.drew hw.size
theorem refReaderDone_spec {K : Int → Int → World → Prop} (r : Rdr w.heap rb s l at_ f) (k : ∀ w', w'.heap = w.heap → Ext No w w' → K (rDone l at_ f).1 (rDone l at_ f).2 w') : C_ref07_Reader_Done (some ⟨rb, 0, none⟩) w K := by
  apply S_ref07_Reader_Done
  obtain ⟨T, hT⟩ := r.blk
  have hs := r.rd.len
  refine ⟨fun w2 => w2.heap = w.heap ∧ Ext No w w2 ∧ ¬ (f = 0 ∧ at_ < l.length), ⟨fun t w1 => w1.heap = w.heap ∧ Ext No w w1 ∧ t = decide (f = 0 ∧ at_ < l.length), ?_, ?_⟩, ?_⟩
  · refine ⟨Ext No w, (Ext.refl _ _).drew, Nn.mk ⟨_, Held.cell (Cell.lst hT rfl), If.beq (fun h => Nn.mk ⟨_, Held.cell (Cell.lst hT rfl), Nn.mk ⟨_, Held.cell (Cell.lst hT rfl), rfl, (Ext.refl _ _).drew, ?_⟩⟩) (fun h => ⟨rfl, (Ext.refl _ _).drew, by simp [h]⟩)⟩⟩
    simp [h]; omega
  · rintro _ t w1 ⟨hh, hx, rfl⟩
    refine If.dec (fun h => ⟨Ext No w1, (Ext.refl _ _).drew, Nn.mk ⟨_, Held.cell (Cell.lst (by rw [hh]; exact hT) rfl), ?_⟩⟩) (fun h => ⟨hh, hx, h⟩)
    have e : rDone l at_ f = (5, (at_ : Int)) := by simp only [rDone, if_pos h]
    rw [e] at k
    exact k (drewW w1) hh hx.drew
  · rintro _ w2 ⟨hh, hx, h⟩
    have e : rDone l at_ f = (f, (at_ : Int)) := by simp only [rDone, if_neg h]
    rw [e] at k
    exact ⟨Ext No w2, (Ext.refl _ _).drew, Nn.mk ⟨_, Held.cell (Cell.lst (by rw [hh]; exact hT) rfl), Nn.mk ⟨_, Held.cell (Cell.lst (by rw [hh]; exact hT) rfl), k (drewW w2) hh hx.drew⟩⟩⟩
end
theorem known_spec {w : World} {K : Bool → World → Prop} (k : ∀ w', Ext No w w' → K true w') : C_law07_known w K := by
  apply S_law07_known
  refine fun b w1 new => ?_
  have own0 := Own.new (sz := 1) (n := 5) new rfl (by simp [oneC])
  refine newReader_spec (l := [2, 97, 98, 128, 1]) own0.rd (by intro x hx; simp at hx; omega) (by simp) fun rb s w2 r hrb hsb ext => ?_
  have hrb2 := new.ext.size
  refine readerText_spec (by decide) r (by simp) fun t w3 r3 ext3 own3 => ?_
  have e3 : rText 2 [2, 97, 98, 128, 1] 0 0 = ([97, 98], 3, 0) := by decide +kernel
  rw [e3] at r3 own3
  refine readerNum_spec r3 fun w4 r4 ext4 _ => ?_
  have e4 : rNum [2, 97, 98, 128, 1] 3 0 = (128, 5, 0) := by decide +kernel
  rw [e4] at r4 ⊢
  refine readerDone_spec r4 fun w5 hh ext5 => ?_
  have e5 : rDone [2, 97, 98, 128, 1] 5 0 = (0, 5) := by decide +kernel
  rw [e5]
  have hne : t.blk ≠ some rb := fun h => by
    have := (own3.lt h).1
    obtain ⟨T, hT⟩ := r.blk
    obtain ⟨hlt, _⟩ := Array.getElem?_eq_some_iff.1 hT
    omega
  have own4 : OwnB w4.heap w2.heap.size t [97, 98] := own3.ext ext4 fun b hb e => hne (by rw [hb, e])
  have own5 : OwnB w5.heap w2.heap.size t [97, 98] := by rw [hh]; exact own4
  refine StrC.mk own5.rd (fun b o v h => Cell.mk h) ?_
  rw [toList_mk, toList_mk]
  have e6 : (toB [97, 98] == [97, 98]) = true := by decide
  rw [e6]
  refine k w5 (((new.ext.no ext).trans ext3 fun i hi e => ?_).trans (ext4.no ext5) fun i hi e => ?_)
  · subst e; omega
  · subst e; omega
theorem packNums_spec {n : Int} {w : World} (h0 : 0 ≤ n) (h1 : n ≤ 18446744073709551615) : C_law07_PackNums n w fun b w' => b = true ∧ Ext No w w' := by
  apply S_law07_PackNums
  refine num_spec h0 h1 fun s w1 own1 ext1 => refNum_spec _ (Nat.le_refl _) h0 h1 fun t w2 own2 ext2 => same_spec (own1.no ext2).rd own2.rd (numB_b8 _) (numB_b8 _) ?_
  rw [decide_eq_true rfl]
  exact known_spec fun w' ext3 => ⟨rfl, (ext1.no ext2).no ext3⟩
end Go.Proofs.Ytbkhcmldclgkoaa
