/- Layer 11: Both. -/
import Derived.Test.YtomlobgpeobnfaaRunsC
namespace Go.Proofs.Ytomlobgpeobnfaa
open Go.V Go.V.Rn
theorem Cut.tail {H : Array Obj} {s : Sl} {r : Run} {L : List Run} {K : Sl → Prop} (h : RdR H s (r :: L)) (k : ∀ s', RdR H s' L → K s') : Cut s 1 (((s.len : Nat) : Int)) (((s.cap : Nat) : Int)) 2 K := by
  have hl := h.len
  have hc := h.cap
  simp only [List.length_cons] at hl
  refine Cut.mk (by omega) (by omega) (by omega) (by omega) (k _ ?_)
  have := Rd.cut h (lo := 1) (hi := s.len) (mx := s.cap) (by omega) (Nat.le_refl _) hc
  have e : (List.drop (1 * 2) (rc (r :: L))).take ((s.len - 1) * 2) = rc L := by
    rw [show List.drop (1 * 2) (rc (r :: L)) = rc L from rfl]
    exact List.take_of_length_le (by rw [rc_len]; omega)
  rw [e] at this
  have e1 : ((s.len : Int) - 1).toNat = s.len - 1 := by omega
  have e2 : ((s.cap : Int) - 1).toNat = s.cap - 1 := by omega
  have e3 : ((s.cap : Int)).toNat = s.cap := by omega
  have e4 : (1 : Int).toNat = 1 := rfl
  rw [e1, e2, e3, e4]
  exact this
theorem cons_of_len {L : List Run} (h : 0 < L.length) : ∃ r l, L = r :: l := by cases L with
  | nil => simp at h
  | cons r l => exact ⟨r, l, rfl⟩
theorem both_spec {a b : Sl} {w : World} {K : Sl → Int → World → Prop} {A B : List Run} (ha : RdR w.heap a A) (hb : RdR w.heap b B) (hua : U32 A) (hub : U32 B) (hna : A.length ≤ 9223372036854775807) (hnb : B.length ≤ 9223372036854775807)
    (k : ∀ s w', OwnR w'.heap w.heap.size s (if rightB A && rightB B then bothR A B else []) → Ext No w w' → K s (if rightB A && rightB B then 0 else 2) w') : C_runs_Both a b w K := by
  apply S_runs_Both
  refine ⟨fun w' => (rightB A && rightB B) = true ∧ Ext No w w', ?_, ?_⟩
  · refine right_spec ha hua (by omega) fun w1 ext => If.not (If.cases (fun hr => ?_) (fun hr => ?_))
    · refine right_spec (hb.no ext) hub (by omega) fun w2 ext2 => If.not (If.cases (fun hr2 => ?_) (fun hr2 => ?_))
      · exact ⟨by rw [hr, hr2]; rfl, ext.no ext2⟩
      · have := k ⟨none, 0, 0⟩ w2
        rw [hr, hr2] at this
        exact this (Own.nil _ _ _ _) (ext.no ext2)
    · have := k ⟨none, 0, 0⟩ w1
      rw [hr] at this
      exact this (Own.nil _ _ _ _) ext
  · rintro _ w3 ⟨hr, ext3⟩
    have hra : rightB A = true ∧ rightB B = true := by simpa using hr
    have hn : A.length + B.length ≤ 8796093022208 := by have := right_len hra.1 hua; have := right_len hra.2 hub; omega
    rw [hr] at k
    refine ⟨fun m a1 b1 l w' => ∃ A1 B1 O, RdR w.heap a1 A1 ∧ RdR w.heap b1 B1 ∧ OwnR w'.heap w.heap.size l O ∧ bothF O A1 B1 = bothR A B ∧ m = A1.length + B1.length ∧ O.length + A1.length + B1.length ≤ A.length + B.length ∧ Ext No w w',
      ⟨_, A, B, [], ha, hb, Own.nil _ _ _ _, rfl, rfl, by simp, ext3⟩, ?_⟩
    rintro _ m a1 b1 l w4 ⟨A1, B1, O, ra, rb, own, he, rfl, hle, ext4⟩
    have la := ra.len
    have lb := rb.len
    refine ⟨fun w5 => w5 = w4 ∧ (0 < A1.length ∨ 0 < B1.length), ?_, ?_⟩
    · refine If.dec (fun h => ⟨rfl, by omega⟩) (fun h => If.dec (fun h2 => ⟨rfl, by omega⟩) (fun h2 => ?_))
      have e1 : A1 = [] := List.length_eq_zero_iff.1 (by omega)
      have e2 : B1 = [] := List.length_eq_zero_iff.1 (by omega)
      subst e1 e2
      rw [bothF] at he
      rw [he] at own
      exact k l w4 own ext4
    · rintro _ w5 ⟨rfl, hsome⟩
      refine ⟨fun t w6 => w6 = drewW w5 ∧ t = (decide (B1.length = 0) || (decide (0 < A1.length) && decide ((gr A1 0).1 ≤ (gr B1 0).1))), ?_, ?_⟩
      · refine ⟨Ext No w5, (Ext.refl _ _).drew, If.beq (fun h => ⟨rfl, ?_⟩) (fun h => If.dec (fun h2 => ?_) (fun h2 => ⟨rfl, ?_⟩))⟩
        · rw [decide_eq_true (by omega : B1.length = 0)]; rfl
        · refine Ix.run (ra.no ext4) (by omega) (by omega) fun _ _ _ c1 c2 => ⟨_, Held.cell c1, Ix.run (rb.no ext4) (by omega) (by omega) fun _ _ _ c1' c2' => ⟨_, Held.cell c1', rfl, ?_⟩⟩
          rw [decide_eq_false (by omega : ¬ B1.length = 0), decide_eq_true (by omega : 0 < A1.length)]; rfl
        · rw [decide_eq_false (by omega : ¬ B1.length = 0), decide_eq_false (by omega : ¬ 0 < A1.length)]; rfl
      · rintro _ t w6 ⟨rfl, rfl⟩
        have ownD : OwnR (drewW (drewW w5)).heap w.heap.size l O := own
        have extD : Ext No w (drewW (drewW w5)) := ext4.drew.drew
        have ne : ∀ {s : Sl} {i : Nat} {M : List Run}, RdR w.heap s M → 0 < M.length → s.blk = some i → ¬ l.blk = some i := fun {s i M} hm hp hi hl => by
          have h1 := (own.lt hl).1
          have h2 := hm.lt (by intro e; have := rc_len M; rw [e] at this; simp at this; omega) hi
          omega
        have toNo : ∀ {w7 : World}, Ext (fun b => l.blk = some b) (drewW (drewW w5)) w7 → Ext No w w7 := fun e => extD.trans e fun i hi hb => by have := (own.lt hb).1; omega
        refine If.cases (fun h => ?_) (fun h => ?_)
        · have hA : 0 < A1.length := by
            simp only [Bool.or_eq_true, Bool.and_eq_true, decide_eq_true_eq] at h; omega
          obtain ⟨r, A2, rfl⟩ := cons_of_len hA
          refine ⟨Ext (fun b => l.blk = some b) (drewW (drewW w5)), Ext.refl _ _, Ix.run (w := drewW (drewW w5)) (ra.no extD) (by omega) (by simp at la; omega) fun b' o hb' c1 c2 => ⟨_, Held.but c1 (ne ra hA hb'), _, Held.but1 c2 (ne ra hA hb'), Cut.tail ra fun s' ra' => ?_⟩⟩
          refine add_spec (r := r) ownD (by have := extD.size; omega) (by simp at hle; omega) fun s2 w7 own7 ext7 _ => ⟨ext7, _, ?_, A2, B1, addR O r, ra', rb, own7, ?_, rfl, ?_, toNo ext7⟩
          · simp
          · rw [← he]
            cases B1 with
            | nil => rw [bothF]
            | cons q B2 =>
              have : r.1 ≤ q.1 := by simpa [gr_zero] using h
              rw [bothF, if_pos this]
          · have := @addR_len O r; simp at hle; omega
        · have hB : 0 < B1.length := by
            simp only [Bool.or_eq_false_iff, decide_eq_false_iff_not] at h; omega
          obtain ⟨r, B2, rfl⟩ := cons_of_len hB
          refine ⟨Ext (fun b => l.blk = some b) (drewW (drewW w5)), Ext.refl _ _, Ix.run (w := drewW (drewW w5)) (rb.no extD) (by omega) (by simp at lb; omega) fun b' o hb' c1 c2 => ⟨_, Held.but c1 (ne rb hB hb'), _, Held.but1 c2 (ne rb hB hb'), Cut.tail rb fun s' rb' => ?_⟩⟩
          refine add_spec (r := r) ownD (by have := extD.size; omega) (by simp at hle; omega) fun s2 w7 own7 ext7 _ => ⟨ext7, _, ?_, A1, B2, addR O r, ra, rb', own7, ?_, rfl, ?_, toNo ext7⟩
          · simp
          · rw [← he]
            cases A1 with
            | nil => rw [bothF]
            | cons q A2 =>
              have : ¬ q.1 ≤ r.1 := by simpa [gr_zero] using h
              rw [bothF, if_neg this]
          · have := @addR_len O r; simp at hle; omega
end Go.Proofs.Ytomlobgpeobnfaa
