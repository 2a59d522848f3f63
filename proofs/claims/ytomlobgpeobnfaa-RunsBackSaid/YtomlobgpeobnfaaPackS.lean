/- Layer 7, what the runs need of it: a reader's Num, Left, Done; the document's Taken. -/
import Derived.Test.YtomlobgpeobnfaaPackA
import Derived.Test.YtomlobgpeobnfaaHeapB
namespace Go.Proofs.Ytomlobgpeobnfaa
open Go.V Go.V.Pk
section
variable {w : World} {rb : Nat} {s : Sl} {l : List Int} {at_ : Nat} {f : Int}
theorem readerNum_spec {K : Int → World → Prop} (r : Rdr w.heap rb s l at_ f)
    (k : ∀ w', Rdr w'.heap rb s l (rNum l at_ f).2.1 (rNum l at_ f).2.2 → Ext (· = rb) w w' → w'.heap.size = w.heap.size → K (rNum l at_ f).1 w') : C_pack_Reader_Num (some ⟨rb, 0, none⟩) w K := by
  apply S_pack_Reader_Num
  obtain ⟨T, hT⟩ := r.blk
  refine ok_spec r (If.not (If.beq (fun hf => ?_) (fun hf => ?_)))
  · refine Nn.mk ⟨_, Cell.lst hT rfl, number_spec r r.le (If.bne (fun he => ?_) (fun he => ?_))⟩
    · have e : rNum l at_ f = (0, at_, (tk 0 0 (l.drop at_)).2.2) := by simp [rNum, hf, he]
      rw [e] at k
      exact Nn.mk (St1.mk hT (by simp) rfl fun w' hw => k w' (r.set hw r.le) hw.ext hw.size)
    · have e : rNum l at_ f = ((tk 0 0 (l.drop at_)).1, at_ + (tk 0 0 (l.drop at_)).2.1, 0) := by simp [rNum, hf, he]
      have hle := rNum_le l at_ f r.le
      rw [e] at k hle
      rw [if_pos he]
      refine Nn.mk (St1.mk hT (by simp) rfl fun w' hw => k w' ?_ hw.ext hw.size)
      subst hf
      exact r.set hw hle
  · have e : rNum l at_ f = (0, at_, f) := by simp [rNum, hf]
    rw [e] at k
    exact k w r (Ext.refl _ _) rfl
theorem readerLeft_spec {K : Int → World → Prop} (r : Rdr w.heap rb s l at_ f) (k : ∀ w', w'.heap = w.heap → Ext No w w' → K ((l.length : Int) - at_) w') : C_pack_Reader_Left (some ⟨rb, 0, none⟩) w K := by
  apply S_pack_Reader_Left
  obtain ⟨T, hT⟩ := r.blk
  have hs := r.rd.len
  have hlen := r.len
  have hle := r.le
  refine ⟨Ext No w, (Ext.refl _ _).drew, Nn.mk ⟨_, Held.cell (Cell.lst hT rfl), Nn.mk ⟨_, Held.cell (Cell.lst hT rfl), Ar.i64 (by omega) ?_⟩⟩⟩
  rw [hs]
  exact k (drewW w) rfl (Ext.refl _ _).drew
theorem readerDone_spec {K : Int → Int → World → Prop} (r : Rdr w.heap rb s l at_ f) (k : ∀ w', w'.heap = w.heap → Ext No w w' → K (rDone l at_ f).1 (rDone l at_ f).2 w') : C_pack_Reader_Done (some ⟨rb, 0, none⟩) w K := by
  apply S_pack_Reader_Done
  obtain ⟨T, hT⟩ := r.blk
  have hs := r.rd.len
  refine ⟨fun w2 => w2.heap = w.heap ∧ Ext No w w2 ∧ ¬ (f = 0 ∧ at_ < l.length), ⟨fun t w1 => w1.heap = w.heap ∧ Ext No w w1 ∧ t = decide (f = 0 ∧ at_ < l.length), ?_, ?_⟩, ?_⟩
  · refine ⟨Ext No w, (Ext.refl _ _).drew, Nn.mk ⟨_, Held.cell (Cell.lst hT rfl), If.beq (fun h => Nn.mk ⟨_, Held.cell (Cell.lst hT rfl), Nn.mk ⟨_, Held.cell (Cell.lst hT rfl), rfl, (Ext.refl _ _).drew, ?_⟩⟩) (fun h => ⟨rfl, (Ext.refl _ _).drew, by simp [h]⟩)⟩⟩
    simp [h]; omega
  · rintro _ t w1 ⟨hh, hx, rfl⟩
    refine If.dec (fun h => ⟨Ext No w1, (Ext.refl _ _).drew, Nn.mk ⟨_, Held.cell (Cell.lst (by rw [hh]; exact hT) rfl), ?_⟩⟩) (fun h => ⟨hh, hx, h⟩)
    have e : rDone l at_ f = (5, (at_ : Int)) := by simp only [rDone, if_pos h]
    rw [e] at k
    exact k (drewW w1) hh hx.drew
  · rintro _ w2 ⟨hh, hx, h⟩
    have e : rDone l at_ f = (f, (at_ : Int)) := by simp only [rDone, if_neg h]
    rw [e] at k
    exact ⟨Ext No w2, (Ext.refl _ _).drew, Nn.mk ⟨_, Held.cell (Cell.lst (by rw [hh]; exact hT) rfl), Nn.mk ⟨_, Held.cell (Cell.lst (by rw [hh]; exact hT) rfl), k (drewW w2) hh hx.drew⟩⟩⟩
end
theorem newReader_spec {b : Sl} {w : World} {K : Option Addr → World → Prop} {l : List Int} (hb : RdB w.heap b l) (h8 : B8 l) (hl : l.length ≤ 140737488355328)
    (k : ∀ rb s w', Rdr w'.heap rb s l 0 0 → w.heap.size ≤ rb → (∀ i, s.blk = some i → w.heap.size ≤ i ∧ i < w'.heap.size) → Ext No w w' → K (some ⟨rb, 0, none⟩) w') : C_pack_NewReader b w K := by
  apply S_pack_NewReader
  refine fun b1 w1 new => ?_
  have own0 := Own.new (sz := 1) (n := 0) new rfl (by simp)
  have hlb := hb.len
  refine app_uint8 own0 (by have := new.ext.size; exact this) (hb.no new.ext).src (by simp; omega) fun s w2 own _ ext _ => ?_
  refine fun rb w3 new2 => ?_
  have hno : Ext No w w2 := new.ext.trans ext fun i hi hbi => by have := (own0.lt hbi).1; omega
  have own' := own.no new2.ext
  refine k rb s w3 ⟨⟨_, new2.get⟩, by simpa [RdB] using own'.rd, fun h => ?_, h8, by omega, by omega⟩ (by rw [new2.at_]; exact hno.size) (fun i hi => ⟨(own'.lt hi).1, (own'.lt hi).2⟩) (hno.no new2.ext)
  have := (own.lt h).2
  rw [new2.at_] at this; omega
theorem copy_uint8 {w : World} {d x : Sl} {b off : Nat} {row xs : List Value} {T : TypeId} {K : Int → World → Prop} (hd : d.a = some ⟨b, off, none⟩) (hb : w.heap[b]? = some (.cells row.toArray T (0, 0))) (hx : Rd w.heap x 1 xs)
    (hle : off + min x.len d.len * 1 ≤ row.length) (hk : ∀ w', Wrt w b (.cells (setL row off (xs.take (min x.len d.len * 1))).toArray T (0, 0)) w' → K (min x.len d.len : Nat) w') : CopyW Try.prog T_sl_uint8 T_sl_uint8 d x.v K w :=
  copy_at (P := Try.prog) (e := T_uint8) (ie := Try.t5) (by kernel_rfl) (by kernel_rfl) (by kernel_rfl) hd hb hx hle hk
theorem copy_spec {b : Sl} {w : World} {K : Sl → World → Prop} {l : List Int} (hb : RdB w.heap b l) (hl : l.length ≤ 140737488355328)
    (k : ∀ s w', OwnB w'.heap w.heap.size s l → Ext No w w' → K s w') : C_ref01_Copy b w K := by
  apply S_ref01_Copy
  have hlb := hb.len
  refine Ar.i64 (by omega) (MkW.mk (by omega) (by omega) (by omega) (by omega) fun i w1 new => ?_)
  have e1 : ((b.len : Int) + 3).toNat = b.len + 3 := by omega
  simp only [e1, Int.toNat_natCast] at new ⊢
  have hx := (hb.no new.ext)
  refine copy_uint8 rfl new.get hx (by simp) fun w2 hw => ?_
  refine k _ w2 ?_ (new.ext.trans hw.ext fun j hj e => by subst e; have := new.at_; omega)
  simp only [Nat.min_self, Nat.mul_one] at hw
  have ht : (l.map (Value.int .u8)).take b.len = l.map (Value.int .u8) := List.take_of_length_le (by simp; omega)
  rw [ht] at hw
  refine ⟨by simpa using hlb.symm, .inr ⟨i, List.replicate 3 (.int .u8 0), rfl, by rw [new.at_]; exact Nat.le_refl _, ?_, by simp; omega, by simp⟩, oneC_ints⟩
  rw [hw.get new.get, setL_eq _ _ _ (by simp; omega)]
  congr 2
  simp only [List.take_zero, List.nil_append, Nat.zero_add, List.length_map, ← hlb]
  congr 1
  have : (List.replicate (b.len + 3) [Value.int IntKind.u8 0]).flatten = List.replicate (b.len + 3) (Value.int IntKind.u8 0) := by
    simp
  rw [this, List.drop_replicate]
  rw [Nat.add_sub_cancel_left]
theorem taken_spec {b : Sl} {w : World} {K : Int → Int → Int → World → Prop} {l : List Int} (hb : RdB w.heap b l) (h8 : B8 l) (hlen : l.length ≤ 4611686018427387904)
    (k : K (tk 0 0 l).1 (tk 0 0 l).2.1 (tk 0 0 l).2.2 w) : C_ref07_Taken b w K := by
  apply S_ref07_Taken
  have hlb := hb.len
  refine ⟨fun m n by_ i w' => w' = w ∧ ∃ j : Nat, i = j ∧ m = 10 - j ∧ j ≤ 9 ∧ j ≤ l.length ∧ 0 ≤ n ∧ n < 128 ^ j ∧ by_ = 128 ^ j ∧ tk 0 0 l = tk j n (l.drop j),
    ⟨_, rfl, 0, rfl, rfl, by omega, by omega, by omega, by decide, by decide, rfl⟩, ?_⟩
  rintro _ m n by_ i w1 ⟨rfl, j, rfl, rfl, hj, hle, hn0, hn1, rfl, ht⟩
  refine If.dec (fun hlt => ?_) (fun hge => ?_)
  · have hdrop : l.drop j = l.getD (j : Int).toNat 0 :: l.drop (j + 1) := by
      have e : (j : Int).toNat = j := by omega
      rw [e, List.drop_eq_getElem_cons (by omega)]
      simp [List.getD, List.getElem?_eq_getElem (show j < l.length by omega)]
    have hx := h8.get (j : Int).toNat
    have hix : ∀ {C : Addr → Prop}, (∀ i o, b.blk = some i → Cell w1 ⟨i, o, none⟩ (.int .u8 (l.getD (j : Int).toNat 0)) → C ⟨i, o, none⟩) → Ix b.a b.len j 1 C := fun hC => Ix.int hb (by omega) (by omega) hC
    generalize l.getD (j : Int).toNat 0 = x at *
    rw [hdrop, tk_cons] at ht
    refine ⟨fun w2 => w2 = w1 ∧ ¬ (j = 9 ∧ x > 1), ?_, ?_⟩
    · refine If.beq (fun h => hix fun _ _ _ ha => ⟨_, ha, If.dec (fun h1 => ?_) (fun h1 => ⟨rfl, fun h2 => h1 h2.2⟩)⟩) (fun h => ⟨rfl, fun h2 => h (by omega)⟩)
      rw [if_pos ⟨by omega, h1⟩] at ht
      simp only [ht] at k
      exact k
    · rintro _ w2 ⟨rfl, hno⟩
      rw [if_neg hno] at ht
      have hpp : (0 : Int) < 128 ^ j := Int.pow_pos (by omega)
      have hbig : x % 128 * 128 ^ j + n ≤ 18446744073709551615 ∧ (j ≠ 9 → (128 : Int) ^ j * 128 ≤ 9223372036854775808) := by
        rw [pow128]
        rw [pow128] at hn1
        by_cases h : j = 9
        · subst h
          have : x % 128 ≤ 1 := by omega
          have : x % 128 * 2 ^ (7 * 9) ≤ 1 * 2 ^ (7 * 9) := Int.mul_le_mul_of_nonneg_right this (by decide)
          have e : (2 : Int) ^ (7 * 9) = 9223372036854775808 := by decide
          exact ⟨by omega, fun h => absurd rfl h⟩
        · have : 7 * j ≤ 56 := by omega
          have h1 : (2 : Int) ^ (7 * j) ≤ 2 ^ 56 := pow2_le this
          have e : (2 : Int) ^ 56 = 72057594037927936 := by decide
          rw [pow128] at hpp
          have : x % 128 * 2 ^ (7 * j) ≤ 127 * 2 ^ (7 * j) := Int.mul_le_mul_of_nonneg_right (by omega) (by omega)
          exact ⟨by omega, fun _ => by omega⟩
      have hnn : 0 ≤ x % 128 * 128 ^ j := Int.mul_nonneg (by omega) (by omega)
      refine hix fun _ _ _ ha => ⟨_, ha, by decide, Nm.as (Int.tmod_eq_emod_of_nonneg hx.1) (Ar.u64 (by omega) (Ar.u64 (by omega) (Ar.u64 (by omega) fun z4 hz4 => ?_)))⟩
      refine hix fun _ _ _ ha => ⟨_, ha, If.dec (fun h1 => ?_) (fun h1 => ?_)⟩
      · rw [if_pos h1] at ht
        have hj9 : j ≠ 9 := by omega
        refine Ar.i64 (by omega) ⟨_, ?_, rfl, j + 1, by omega, rfl, by omega, by omega, by omega, ?_, ?_, ht⟩
        · omega
        · have : x % 128 * 128 ^ j ≤ 127 * 128 ^ j := Int.mul_le_mul_of_nonneg_right (by omega) (by omega)
          rw [Int.pow_succ]; omega
        · rw [hz4, wrap_u64, Int.pow_succ]
          have := hbig.2 hj9
          exact Int.emod_eq_of_lt (by omega) (by omega)
      · rw [if_neg h1] at ht
        refine hix fun _ _ _ ha => ⟨_, ha, If.beq (fun h => If.dec (fun h2 => ?_) (fun h2 => ?_)) (fun h => ?_)⟩
        · rw [if_pos ⟨h, by omega⟩] at ht
          simp only [ht] at k
          exact k
        · rw [if_neg (fun h3 => h2 (by omega))] at ht
          simp only [ht] at k
          exact Ar.i64 (by omega) k
        · rw [if_neg (fun h3 => h h3.1)] at ht
          simp only [ht] at k
          exact Ar.i64 (by omega) k
  · have : l.drop j = [] := List.drop_of_length_le (by omega)
    rw [this] at ht
    simp only [ht, tk] at k
    exact k
end Go.Proofs.Ytomlobgpeobnfaa
