/- Layer 11: the document's Both. -/
import Derived.Test.YtomlobgpeobnfaaRunsK
namespace Go.Proofs.Ytomlobgpeobnfaa
open Go.V Go.V.Rn Go.V.Pk
theorem St2.mk {w : World} {b : Nat} {c d x y : Int} {K : World → Prop} (hb : w.heap[b]? = some (pairO c d)) (k : ∀ w', Wrt w b (pairO x y) w' → K w') :
    List.length (α := Value) [.int .u32 x, .int .u32 y] = 2 ∧ StN w (Addr.mk b 0 none) [.int .u32 x, .int .u32 y] K :=
  ⟨rfl, _, _, _, hb, rfl, by simp, .inr (.inr (Nat.le_refl _)), by simp [oneC], fun w' hw => k w' hw⟩
theorem refBoth_spec {a b : Sl} {w : World} {K : Sl → World → Prop} {A B : List Run} (ha : RdR w.heap a A) (hb : RdR w.heap b B) (hn : A.length + B.length ≤ 8796093022208)
    (k : ∀ s w', OwnR w'.heap w.heap.size s (bothR A B) → Ext No w w' → K s w') : C_ref11_Both a b w K := by
  apply S_ref11_Both
  have la := ha.len
  have lb := hb.len
  refine ⟨fun m out i k w' => ∃ i' k' : Nat, i = i' ∧ k = k' ∧ i' ≤ A.length ∧ k' ≤ B.length ∧ m = A.length + B.length - (i' + k') ∧ ∃ O, OwnR w'.heap w.heap.size out O ∧ O.length ≤ i' + k' ∧ bothF O (A.drop i') (B.drop k') = bothR A B ∧ Ext No w w',
    ⟨_, 0, 0, rfl, rfl, Nat.zero_le _, Nat.zero_le _, rfl, [], Own.nil _ _ _ _, Nat.zero_le _, rfl, Ext.refl _ _⟩, ?_⟩
  rintro _ m out i k1 w1 ⟨i, k', rfl, rfl, hi, hk', rfl, O, own, hO, he, ext⟩
  refine ⟨fun w2 => w2 = w1 ∧ (i < A.length ∨ k' < B.length), ?_, ?_⟩
  · refine If.dec (fun h => ⟨rfl, by omega⟩) (fun h => If.dec (fun h2 => ⟨rfl, by omega⟩) (fun h2 => ?_))
    rw [List.drop_of_length_le (by omega : A.length ≤ i), List.drop_of_length_le (by omega : B.length ≤ k'), bothF] at he
    rw [he] at own
    exact k out w1 own ext
  · rintro _ w2 ⟨rfl, hsome⟩ rb w3 new
    have hrb := new.at_
    have own3 := own.no new.ext
    have ext3 := ext.no new.ext
    have hne : ¬ out.blk = some rb := fun hx => by have := (own.lt hx).2; omega
    have z3 := new.size
    refine ⟨fun i1 k1 w7 => ∃ (r : Run) (i' k'' : Nat), i1 = i' ∧ k1 = k'' ∧ i' ≤ A.length ∧ k'' ≤ B.length ∧ i' + k'' = i + k' + 1 ∧ w7.heap[rb]? = some (pairO r.1 r.2) ∧ OwnR w7.heap w.heap.size out O ∧ bothF (addR O r) (A.drop i') (B.drop k'') = bothR A B ∧ Ext No w w7, ?_, ?_⟩
    · refine ⟨fun t w4 => w4 = drewW w3 ∧ t = (decide (k' ≥ B.length) || (decide (i < A.length) && decide ((gr A i).1 ≤ (gr B k').1))), ?_, ?_⟩
      · refine ⟨Ext No w3, (Ext.refl _ _).drew, If.dec (fun h => ⟨rfl, ?_⟩) (fun h => If.dec (fun h2 => ?_) (fun h2 => ⟨rfl, ?_⟩))⟩
        · rw [decide_eq_true (by omega : k' ≥ B.length)]; rfl
        · refine Ix.run (ha.no ext3) (by omega) h2 fun _ _ _ c1 _ => ⟨_, Held.cell c1, Ix.run (hb.no ext3) (by omega) (by omega) fun _ _ _ c1' _ => ⟨_, Held.cell c1', rfl, ?_⟩⟩
          rw [decide_eq_false (by omega : ¬ k' ≥ B.length), decide_eq_true (by omega : i < A.length), Int.toNat_natCast, Int.toNat_natCast]; rfl
        · rw [decide_eq_false (by omega : ¬ k' ≥ B.length), decide_eq_false (by omega : ¬ i < A.length)]; rfl
      · rintro _ t w4 ⟨rfl, rfl⟩
        have extD : Ext No w (drewW w3) := ext3.drew
        have ownD : OwnR (drewW w3).heap w.heap.size out O := own3
        have hbD : (drewW w3).heap[rb]? = some (pairO 0 0) := new.get
        have fin : ∀ {x y : Int} {w5 : World}, Wrt (drewW w3) rb (pairO x y) w5 → OwnR w5.heap w.heap.size out O ∧ Ext No w w5 := fun hw =>
          ⟨ownD.ext hw.ext fun j hj e => hne (by rw [hj, e]), extD.trans hw.ext fun j hj e => by have := ext.size; omega⟩
        refine If.cases (fun h => ?_) (fun h => ?_)
        · have hA : i < A.length := by
            simp only [Bool.or_eq_true, Bool.and_eq_true, decide_eq_true_eq] at h; omega
          refine Ix.run (w := drewW w3) (ha.no extD) (by omega) (by omega) fun _ _ _ c1 c2 => ⟨_, c1, _, c2, St2.mk hbD fun w5 hw => Ar.i64 (by omega) ⟨gr A i, i + 1, k', by omega, rfl, by omega, hk', by omega, ?_, (fin hw).1, ?_, (fin hw).2⟩⟩
          · rw [Int.toNat_natCast] at hw; exact hw.get hbD
          · rw [← he, drop_get hA]
            rcases Nat.lt_or_ge k' B.length with hkb | hkb
            · rw [drop_get hkb, bothF, if_pos]
              simp only [Bool.or_eq_true, Bool.and_eq_true, decide_eq_true_eq] at h; omega
            · rw [List.drop_of_length_le hkb, bothF]
        · have hB : k' < B.length := by
            simp only [Bool.or_eq_false_iff, decide_eq_false_iff_not] at h; omega
          refine Ix.run (w := drewW w3) (hb.no extD) (by omega) (by omega) fun _ _ _ c1 c2 => ⟨_, c1, _, c2, St2.mk hbD fun w5 hw => Ar.i64 (by omega) ⟨gr B k', i, k' + 1, rfl, by omega, hi, by omega, by omega, ?_, (fin hw).1, ?_, (fin hw).2⟩⟩
          · rw [Int.toNat_natCast] at hw; exact hw.get hbD
          · rw [← he, drop_get hB]
            rcases Nat.lt_or_ge i A.length with hia | hia
            · rw [drop_get hia, bothF, if_neg]
              intro hle
              rw [decide_eq_true hia, decide_eq_true hle] at h
              simp at h
            · rw [List.drop_of_length_le hia, bothF]
    · rintro _ i1 k1 w7 ⟨r, i', k'', rfl, rfl, hi', hk'', hsum, hb7, own7, he7, ext7⟩
      have lO := OwnR.len own7
      have next : ∀ s w', OwnR w'.heap w.heap.size s (addR O r) → Ext No w w' → ∃ m1, m1 < A.length + B.length - (i + k') ∧ ∃ i2 k2 : Nat, (i' : Int) = i2 ∧ (k'' : Int) = k2 ∧ i2 ≤ A.length ∧ k2 ≤ B.length ∧ m1 = A.length + B.length - (i2 + k2) ∧ ∃ O', OwnR w'.heap w.heap.size s O' ∧ O'.length ≤ i2 + k2 ∧ bothF O' (A.drop i2) (B.drop k2) = bothR A B ∧ Ext No w w' :=
        fun s w' ow ex => ⟨_, by omega, i', k'', rfl, rfl, hi', hk'', rfl, addR O r, ow, by have := @addR_len O r; omega, he7, ex⟩
      have e1 : ((out.len : Int) - 1).toNat = O.length - 1 := by omega
      refine ⟨fun t w8 => w8 = drewW w7 ∧ t = decide (0 < O.length ∧ r.1 ≤ lastTo O), ?_, ?_⟩
      · refine ⟨Ext No w7, (Ext.refl _ _).drew, If.dec (fun h => ?_) (fun h => ⟨rfl, ?_⟩)⟩
        · refine ⟨_, Held.cell (Cell.lst hb7 rfl), Ar.i64 (by omega) (Ix.run own7.rd (by omega) (by omega) fun _ _ _ c1 c2 => ⟨_, Held.cell1 c2, rfl, ?_⟩)⟩
          rw [decide_eq_decide, e1]
          exact ⟨fun h' => ⟨by omega, h'⟩, fun h' => h'.2⟩
        · symm; rw [decide_eq_false_iff_not]; intro h'; omega
      · rintro _ t w8 ⟨rfl, rfl⟩
        have own8 : OwnR (drewW w7).heap w.heap.size out O := own7
        have hb8 : (drewW w7).heap[rb]? = some (pairO r.1 r.2) := hb7
        have ext8 : Ext No w (drewW w7) := ext7.drew
        refine If.dec (fun h => ?_) (fun h => ?_)
        · have hadd : addR O r = setTo O (O.length - 1) (iMax (lastTo O) r.2) := by unfold addR; rw [if_pos h]
          refine ⟨Ext No (drewW w7), (Ext.refl _ _).drew, _, Held.cell (Cell.lst hb8 rfl), Ar.i64 (by omega) (Ix.run own8.rd (by omega) (by omega) fun _ _ _ c1 c2 => ⟨_, Held.cell1 c2, If.dec (fun h2 => ?_) (fun h2 => ?_)⟩)⟩
          · rw [e1] at h2
            refine Ar.i64 (by omega) ⟨_, Cell.lst (w := drewW (drewW w7)) hb8 rfl, St1.run (w := drewW (drewW w7)) own8 (by omega) (by omega) fun w9 own9 ext9 _ => next out w9 ?_ (ext8.trans ext9.drew_left fun j hj hb => by have := (own8.lt hb).1; omega)⟩
            rw [hadd, show iMax (lastTo O) r.2 = r.2 by unfold iMax lastTo; rw [if_pos h2], ← e1]
            exact own9
          · rw [e1] at h2
            refine next out _ ?_ ext8.drew
            rw [hadd, show iMax (lastTo O) r.2 = lastTo O by unfold iMax lastTo; rw [if_neg h2], lastTo, setTo_same (by omega)]
            exact own8
        · have hadd : addR O r = O ++ [r] := by unfold addR; rw [if_neg h]
          refine ⟨_, Cell.lst hb8 rfl, _, Cell.lst hb8 rfl, fun b2 w10 new10 => ?_⟩
          have z10 := new10.size
          have z8 := ext8.size
          refine app_api_Run (own8.no new10.ext) (by omega) ((Own.new (sz := 2) (n := 1) new10 rfl (rc_one [r])).rd.src) (by simp only; omega) fun s' w11 own' _ ext' _ => next s' w11 (by rw [hadd, OwnR, rc_app]; exact own') ((ext8.no new10.ext).trans ext' fun j hj hb => by have := (own8.lt hb).1; omega)
end Go.Proofs.Ytomlobgpeobnfaa
