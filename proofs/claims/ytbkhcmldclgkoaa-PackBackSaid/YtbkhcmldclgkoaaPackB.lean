/- Layer 7: readers. -/
import Derived.Test.YtbkhcmldclgkoaaPackA
import Derived.Test.YtbkhcmldclgkoaaHeapB
namespace Go.Proofs.Ytbkhcmldclgkoaa
open Go.V Go.V.Pk
section
variable {w : World} {rb : Nat} {s : Sl} {l : List Int} {at_ : Nat} {f : Int}
theorem readerNum_spec {K : Int → World → Prop} (r : Rdr w.heap rb s l at_ f)
    (k : ∀ w', Rdr w'.heap rb s l (rNum l at_ f).2.1 (rNum l at_ f).2.2 → Ext (· = rb) w w' → w'.heap.size = w.heap.size → K (rNum l at_ f).1 w') : C_pack_Reader_Num (some ⟨rb, 0, none⟩) w K := by
  apply S_pack_Reader_Num
  obtain ⟨T, hT⟩ := r.blk
  refine ok_spec r (If.not (If.beq (fun hf => ?_) (fun hf => ?_)))
  · refine Nn.mk ⟨_, Cell.lst hT rfl, number_spec r r.le (If.bne (fun he => ?_) (fun he => ?_))⟩
    · have e : rNum l at_ f = (0, at_, (tk 0 0 (l.drop at_)).2.2) := by simp [rNum, hf, he]
      rw [e] at k
      exact Nn.mk (St1.mk hT (by simp) rfl fun w' hw => k w' (r.set hw r.le) hw.ext hw.size)
    · have e : rNum l at_ f = ((tk 0 0 (l.drop at_)).1, at_ + (tk 0 0 (l.drop at_)).2.1, 0) := by simp [rNum, hf, he]
      have hle := rNum_le l at_ f r.le
      rw [e] at k hle
      rw [if_pos he]
      refine Nn.mk (St1.mk hT (by simp) rfl fun w' hw => k w' ?_ hw.ext hw.size)
      subst hf
      exact r.set hw hle
  · have e : rNum l at_ f = (0, at_, f) := by simp [rNum, hf]
    rw [e] at k
    exact k w r (Ext.refl _ _) rfl
theorem readerByte_spec {K : Int → World → Prop} (r : Rdr w.heap rb s l at_ f)
    (k : ∀ w', Rdr w'.heap rb s l (rByte l at_ f).2.1 (rByte l at_ f).2.2 → Ext (· = rb) w w' → w'.heap.size = w.heap.size → K (rByte l at_ f).1 w') : C_pack_Reader_Byte (some ⟨rb, 0, none⟩) w K := by
  apply S_pack_Reader_Byte
  obtain ⟨T, hT⟩ := r.blk
  have hs := r.rd.len
  have hlen := r.len
  have hle := r.le
  refine ok_spec r (If.not (If.beq (fun hf => ?_) (fun hf => ?_)))
  · refine ⟨Ext No w, (Ext.refl _ _).drew, Nn.mk ⟨_, Held.cell (Cell.lst hT rfl), Nn.mk ⟨_, Held.cell (Cell.lst hT rfl), If.beq (fun he => ?_) (fun he => ?_)⟩⟩⟩
    · have e : rByte l at_ f = (0, at_, 4) := by simp only [rByte, hf]; rw [if_neg (by simp), if_pos (by omega)]
      rw [e] at k
      exact Nn.mk (St1.mk (w := drewW w) hT (by simp) rfl fun w' hw => k w' (Rdr.set (w := drewW w) (r.no (Ext.refl _ _).drew) hw r.le) hw.ext.drew_left hw.size)
    · have e : rByte l at_ f = (l.getD at_ 0, at_ + 1, 0) := by simp only [rByte, hf]; rw [if_neg (by simp), if_neg (by omega)]
      rw [e] at k
      refine Nn.mk ⟨_, Cell.lst (w := drewW w) hT rfl, Ar.i64 (by omega) (Nn.mk (St1.mk (w := drewW w) hT (by simp) rfl fun w' hw => ?_))⟩
      have r' : Rdr w'.heap rb s l (at_ + 1) 0 := by
        subst hf
        exact Rdr.set (w := drewW w) (r.no (Ext.refl _ _).drew) hw (by omega)
      obtain ⟨T', hT'⟩ := r'.blk
      refine ⟨Ext No w', (Ext.refl _ _).drew, Nn.mk ⟨_, Held.cell (Cell.lst hT' rfl), Nn.mk ⟨_, Held.cell (Cell.lst hT' rfl), Ar.i64 (by omega) (Ix.int r'.rd (by omega) (by omega) fun _ _ _ ha => ⟨_, Held.cell ha, ?_⟩)⟩⟩⟩
      have e2 : (((at_ + 1 : Nat) : Int) - 1).toNat = at_ := by omega
      rw [e2]
      exact k (drewW w') (r'.no (Ext.refl _ _).drew) hw.ext.drew_left.drew hw.size
  · have e : rByte l at_ f = (0, at_, f) := by simp [rByte, hf]
    rw [e] at k
    exact k w r (Ext.refl _ _) rfl
theorem readerLeft_spec {K : Int → World → Prop} (r : Rdr w.heap rb s l at_ f) (k : ∀ w', w'.heap = w.heap → Ext No w w' → K ((l.length : Int) - at_) w') : C_pack_Reader_Left (some ⟨rb, 0, none⟩) w K := by
  apply S_pack_Reader_Left
  obtain ⟨T, hT⟩ := r.blk
  have hs := r.rd.len
  have hlen := r.len
  have hle := r.le
  refine ⟨Ext No w, (Ext.refl _ _).drew, Nn.mk ⟨_, Held.cell (Cell.lst hT rfl), Nn.mk ⟨_, Held.cell (Cell.lst hT rfl), Ar.i64 (by omega) ?_⟩⟩⟩
  rw [hs]
  exact k (drewW w) rfl (Ext.refl _ _).drew
theorem readerDone_spec {K : Int → Int → World → Prop} (r : Rdr w.heap rb s l at_ f) (k : ∀ w', w'.heap = w.heap → Ext No w w' → K (rDone l at_ f).1 (rDone l at_ f).2 w') : C_pack_Reader_Done (some ⟨rb, 0, none⟩) w K := by
  apply S_pack_Reader_Done
  obtain ⟨T, hT⟩ := r.blk
  have hs := r.rd.len
  refine ⟨fun w2 => w2.heap = w.heap ∧ Ext No w w2 ∧ ¬ (f = 0 ∧ at_ < l.length), ⟨fun t w1 => w1.heap = w.heap ∧ Ext No w w1 ∧ t = decide (f = 0 ∧ at_ < l.length), ?_, ?_⟩, ?_⟩
  · refine ⟨Ext No w, (Ext.refl _ _).drew, Nn.mk ⟨_, Held.cell (Cell.lst hT rfl), If.beq (fun h => Nn.mk ⟨_, Held.cell (Cell.lst hT rfl), Nn.mk ⟨_, Held.cell (Cell.lst hT rfl), rfl, (Ext.refl _ _).drew, ?_⟩⟩) (fun h => ⟨rfl, (Ext.refl _ _).drew, by simp [h]⟩)⟩⟩
    simp [h]; omega
  · rintro _ t w1 ⟨hh, hx, rfl⟩
    refine If.dec (fun h => ⟨Ext No w1, (Ext.refl _ _).drew, Nn.mk ⟨_, Held.cell (Cell.lst (by rw [hh]; exact hT) rfl), ?_⟩⟩) (fun h => ⟨hh, hx, h⟩)
    have e : rDone l at_ f = (5, (at_ : Int)) := by simp only [rDone, if_pos h]
    rw [e] at k
    exact k (drewW w1) hh hx.drew
  · rintro _ w2 ⟨hh, hx, h⟩
    have e : rDone l at_ f = (f, (at_ : Int)) := by simp only [rDone, if_neg h]
    rw [e] at k
    exact ⟨Ext No w2, (Ext.refl _ _).drew, Nn.mk ⟨_, Held.cell (Cell.lst (by rw [hh]; exact hT) rfl), Nn.mk ⟨_, Held.cell (Cell.lst (by rw [hh]; exact hT) rfl), k (drewW w2) hh hx.drew⟩⟩⟩
theorem iMax_eq (x y : Int) : iMax x y = max x y := by unfold iMax; omega
theorem readerText_spec {most : Int} {K : Sl → World → Prop} (hm : most ≤ 9223372036854775807) (r : Rdr w.heap rb s l at_ f) (hl47 : l.length ≤ 140737488355328)
    (k : ∀ t w', Rdr w'.heap rb s l (rText most l at_ f).2.1 (rText most l at_ f).2.2 → Ext (· = rb) w w' → OwnB w'.heap w.heap.size t (rText most l at_ f).1 → K t w') : C_pack_Reader_Text (some ⟨rb, 0, none⟩) most w K := by
  apply S_pack_Reader_Text
  obtain ⟨T, hT⟩ := r.blk
  obtain ⟨hrb, _⟩ := Array.getElem?_eq_some_iff.1 hT
  have hs := r.rd.len
  have hlen := r.len
  have hle := r.le
  refine ok_spec r (If.not (If.beq (fun hf => ?_) (fun hf => ?_)))
  · subst hf
    refine Nn.mk ⟨_, Cell.lst hT rfl, number_spec r r.le ?_⟩
    have htk := tk_fault (l.drop at_) 0 0
    have hnn := tk_nonneg (l.drop at_) 0 0 (r.rng.drop _) (by omega)
    have hr : rText most l at_ 0 = if (tk 0 0 (l.drop at_)).2.2 ≠ 0 then ([], at_, (tk 0 0 (l.drop at_)).2.2) else if (tk 0 0 (l.drop at_)).1 > max most 0 then ([], at_, 3)
        else if (tk 0 0 (l.drop at_)).1 > (l.length : Int) - (at_ + (tk 0 0 (l.drop at_)).2.1 : Nat) then ([], at_, 4)
        else ((l.drop (at_ + (tk 0 0 (l.drop at_)).2.1)).take (tk 0 0 (l.drop at_)).1.toNat, at_ + (tk 0 0 (l.drop at_)).2.1 + (tk 0 0 (l.drop at_)).1.toNat, 0) := rfl
    generalize tk 0 0 (l.drop at_) = t at *
    obtain ⟨n, j, e⟩ := t
    simp only [List.length_drop] at htk hr hnn ⊢
    refine ⟨fun e' w' => w' = w ∧ ((e' ≠ 0 ∧ rText most l at_ 0 = ([], at_, e')) ∨ (e' = 0 ∧ e = 0 ∧ n ≤ (l.length : Int) - (at_ + j : Nat) ∧ rText most l at_ 0 = ((l.drop (at_ + j)).take n.toNat, at_ + j + n.toNat, 0))), ?_, ?_⟩
    · refine If.bne (fun he => ⟨rfl, .inl ⟨he, by rw [hr, if_pos he]⟩⟩) (fun he => ?_)
      rw [if_neg (by simp [he])] at hr
      rw [if_pos he]
      refine Nm.as (iMax_eq _ _) (Ar.u64 (by omega) (If.dec (fun h => ⟨rfl, .inl ⟨by decide, by rw [hr, if_pos h]⟩⟩) (fun h => ?_)))
      rw [if_neg h] at hr
      refine Nn.mk ⟨_, Cell.lst hT rfl, Ar.i64 (by omega) (Ar.u64 (by omega) (If.dec (fun h2 => ⟨rfl, .inl ⟨by decide, by rw [hr, if_pos (by omega)]⟩⟩) (fun h2 => ⟨rfl, .inr ⟨he, he, by omega, by rw [hr, if_neg (by omega)]⟩⟩)))⟩
    · rintro _ e' w' ⟨rfl, h⟩
      refine If.bne (fun he => ?_) (fun he => ?_)
      · rcases h with ⟨_, h⟩ | ⟨h, _⟩
        · rw [h] at k
          refine Nn.mk (St1.mk hT (by simp) rfl fun w1 hw => k _ w1 (r.set hw r.le) hw.ext (Own.nil _ _ _ _))
        · exact absurd h he
      · rcases h with ⟨h, _⟩ | ⟨_, h0, h1, h⟩
        · exact absurd he h
        · subst h0
          rw [h] at k
          rw [if_pos rfl]
          have hj : j ≤ l.length - at_ := by rcases htk with ⟨_, _, h⟩ | ⟨h, _⟩; omega; exact absurd rfl h
          refine Ar.i64 (by omega) (Ar.i64 (by omega) (Nn.mk (St1.mk hT (by simp) rfl fun w1 hw => ?_)))
          have r' : Rdr w1.heap rb s l (at_ + j + n.toNat) 0 := by
            refine r.set (T := T) ?_ (by omega)
            have e1 : ((at_ + j : Nat) : Int) + n = ((at_ + j + n.toNat : Nat) : Int) := by omega
            rw [e1] at hw
            exact hw
          obtain ⟨T', hT'⟩ := r'.blk
          refine ⟨Ext No w1, (Ext.refl _ _).drew, Nn.mk ⟨_, Held.cell (Cell.lst hT' rfl), Nn.mk ⟨_, Held.cell (Cell.lst hT' rfl), ?_⟩⟩⟩
          have hcap := r'.rd.cap
          refine Cut.mk (by omega) (by omega) (by omega) (by omega) fun b w2 new => ⟨(Ext.refl _ _).drew.no new.ext, ?_⟩
          have own0 := Own.new (sz := 1) (n := 0) new rfl (by simp)
          have hcut := r'.rd.cut (lo := at_ + j) (hi := at_ + j + n.toNat) (mx := s.cap) (by omega) (by omega) (by omega)
          have hcut2 : Rd w2.heap _ 1 _ := Rd.no (w := drewW w1) hcut new.ext
          have e3 : (((at_ + j + n.toNat : Nat) : Int) - ((at_ + j : Nat) : Int)).toNat = at_ + j + n.toNat - (at_ + j) := by omega
          have e4 : (((s.cap : Nat) : Int) - ((at_ + j : Nat) : Int)).toNat = s.cap - (at_ + j) := by omega
          simp only [Int.toNat_natCast] at *
          rw [e3, e4]
          refine app_uint8 own0 (by have := new.ext.size; exact this) hcut2.src (by simp; omega) fun s' w3 own' _ ext' hb => ?_
          have hno : Ext No (drewW w1) w3 := new.ext.trans ext' fun i hi hbi => by have := (own0.lt hbi).1; omega
          refine ⟨(Ext.refl No w1).drew.no hno, k s' w3 (Rdr.no (w := drewW w1) (r'.no (Ext.refl _ _).drew) hno) ((hw.ext.drew).no hno) ?_⟩
          have : w1.heap.size = w'.heap.size := hw.size
          have e5 : (drewW w1).heap.size = w'.heap.size := this
          rw [e5] at own'
          have e6 : List.take (at_ + j + n.toNat - (at_ + j)) (List.drop (at_ + j) l) = List.take n.toNat (List.drop (at_ + j) l) := by congr 1; omega
          simpa [OwnB, ← List.map_drop, ← List.map_take, e6] using own'
  · have e : rText most l at_ f = ([], at_, f) := by simp [rText, hf]
    rw [e] at k
    exact k _ w r (Ext.refl _ _) (Own.nil _ _ _ _)
end
theorem newReader_spec {b : Sl} {w : World} {K : Option Addr → World → Prop} {l : List Int} (hb : RdB w.heap b l) (h8 : B8 l) (hl : l.length ≤ 140737488355328)
    (k : ∀ rb s w', Rdr w'.heap rb s l 0 0 → w.heap.size ≤ rb → (∀ i, s.blk = some i → w.heap.size ≤ i ∧ i < w'.heap.size) → Ext No w w' → K (some ⟨rb, 0, none⟩) w') : C_pack_NewReader b w K := by
  apply S_pack_NewReader
  refine fun b1 w1 new => ?_
  have own0 := Own.new (sz := 1) (n := 0) new rfl (by simp)
  have hlb := hb.len
  refine app_uint8 own0 (by have := new.ext.size; exact this) (hb.no new.ext).src (by simp; omega) fun s w2 own _ ext _ => ?_
  refine fun rb w3 new2 => ?_
  have hno : Ext No w w2 := new.ext.trans ext fun i hi hbi => by have := (own0.lt hbi).1; omega
  have own' := own.no new2.ext
  refine k rb s w3 ⟨⟨_, new2.get⟩, by simpa [RdB] using own'.rd, fun h => ?_, h8, by omega, by omega⟩ (by rw [new2.at_]; exact hno.size) (fun i hi => ⟨(own'.lt hi).1, (own'.lt hi).2⟩) (hno.no new2.ext)
  have := (own.lt h).2
  rw [new2.at_] at this; omega
end Go.Proofs.Ytbkhcmldclgkoaa
