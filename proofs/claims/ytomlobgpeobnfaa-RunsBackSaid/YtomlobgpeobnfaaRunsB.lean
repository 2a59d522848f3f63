/- Layer 11: more functions that read lists. -/
import Derived.Test.YtomlobgpeobnfaaRunsA
namespace Go.Proofs.Ytomlobgpeobnfaa
open Go.V Go.V.Rn
theorem refRight_spec {s : Sl} {w : World} {K : Bool → World → Prop} {L : List Run} (h : RdR w.heap s L) (hu : U32 L) (hn : L.length ≤ 9223372036854775807) (k : ∀ w', Ext No w w' → K (rightB L) w') : C_ref11_Right s w K := by
  apply S_ref11_Right
  have hl := h.len
  refine ⟨fun m t w' => ∃ j : Nat, t = j ∧ m = L.length - j ∧ j ≤ L.length ∧ rightB L = okFrom (pe L j) (L.drop j) ∧ Ext No w w', ⟨_, 0, rfl, rfl, Nat.zero_le _, rfl, Ext.refl _ _⟩, ?_⟩
  rintro _ m t w1 ⟨j, rfl, rfl, hj, he, ext⟩
  have hg := hu.get j
  refine If.dec (fun hlt => ?_) (fun hge => ?_)
  · have hjl : j < L.length := by omega
    rw [drop_get hjl, okFrom] at he
    refine ⟨Ext No w1, (Ext.refl _ _).drew, Ix.run (h.no ext) (by omega) hlt fun b o hb c1 c2 => ⟨_, Held.cell c1, Ix.run (h.no ext) (by omega) hlt fun b' o' hb' c1' c2' => ⟨_, Held.cell1 c2', ?_⟩⟩⟩
    rw [Int.toNat_natCast]
    refine If.dec (fun h1 => ?_) (fun h1 => ?_)
    · have : rightB L = false := by rw [he]; simp; intro; omega
      rw [← this]; exact k _ ext.drew
    · have next : ∀ (_ : decide (pe L j < (gr L j).1) = true), ∃ m1, m1 < L.length - j ∧ ∃ j' : Nat, (j : Int) + 1 = j' ∧ m1 = L.length - j' ∧ j' ≤ L.length ∧ rightB L = okFrom (pe L j') (L.drop j') ∧ Ext No w (drewW (drewW w1)) := fun hd =>
        ⟨_, by omega, j + 1, by omega, rfl, by omega, by rw [he, hd, pe_succ]; simp; intro; omega, ext.drew.drew⟩
      refine ⟨Ext No (drewW w1), (Ext.refl _ _).drew, If.dec (fun h2 => ?_) (fun h2 => Ar.i64 (by omega) (next ?_))⟩
      · refine Ix.run (w := drewW w1) (h.no ext.drew) (by omega) hlt fun b o hb c1 c2 => ⟨_, Held.cell c1, ?_⟩
        refine Ar.i64 (by omega) (Ix.run (w := drewW w1) (h.no ext.drew) (by omega) (by omega) fun b o hb c1 c2 => ⟨_, Held.cell1 c2, ?_⟩)
        have hpe : pe L j = (gr L ((j : Int) - 1).toNat).2 := by
          unfold pe; rw [if_neg (by omega), show ((j : Int) - 1).toNat = j - 1 by omega]
        rw [← hpe, Int.toNat_natCast]
        refine If.dec (fun h3 => ?_) (fun h3 => Ar.i64 (by omega) (next (by simp; omega)))
        have : rightB L = false := by rw [he]; simp; intro _ h; omega
        rw [← this]; exact k _ ext.drew.drew
      · have : j = 0 := by omega
        subst this; simp [pe]; omega
  · have hnil : L.drop j = [] := List.drop_of_length_le (by omega)
    rw [hnil] at he
    have := k w1 ext
    rw [he] at this
    exact this
theorem eqL_step {L M : List Run} {j : Nat} (hj : j < L.length) (he : L.length = M.length) : (decide (L.drop j = M.drop j)) = (((gr L j).1 == (gr M j).1) && (((gr L j).2 == (gr M j).2) && decide (L.drop (j + 1) = M.drop (j + 1)))) := by
  rw [drop_get hj, drop_get (by omega : j < M.length), Bool.eq_iff_iff]
  simp [Prod.ext_iff, and_assoc]
theorem refSame_spec {a b : Sl} {w : World} {K : Bool → World → Prop} {L M : List Run} (ha : RdR w.heap a L) (hb : RdR w.heap b M) (hn : L.length ≤ 9223372036854775807) (k : ∀ w', Ext No w w' → K (decide (L = M)) w') : C_ref11_Same a b w K := by
  apply S_ref11_Same
  have hla := ha.len
  have hlb := hb.len
  refine If.bne (fun h => ?_) (fun h => ?_)
  · have : decide (L = M) = false := by simp; intro e; subst e; omega
    rw [← this]; exact k w (Ext.refl _ _)
  · refine ⟨fun m t w' => ∃ j : Nat, t = j ∧ m = L.length - j ∧ j ≤ L.length ∧ decide (L = M) = decide (L.drop j = M.drop j) ∧ Ext No w w', ⟨_, 0, rfl, rfl, Nat.zero_le _, rfl, Ext.refl _ _⟩, ?_⟩
    rintro _ m t w1 ⟨j, rfl, rfl, hj, he, ext⟩
    refine If.dec (fun hlt => ?_) (fun hge => ?_)
    · rw [eqL_step (by omega) (by omega)] at he
      refine ⟨Ext No w1, (Ext.refl _ _).drew, Ix.run (ha.no ext) (by omega) hlt fun _ _ _ c1 c2 => ⟨_, Held.cell c1, _, Held.cell1 c2, Ix.run (hb.no ext) (by omega) (by omega) fun _ _ _ c1' c2' => ⟨_, Held.cell c1', _, Held.cell1 c2', ?_⟩⟩⟩
      rw [Int.toNat_natCast]
      refine If.not (If.cases (fun h1 => Ar.i64 (by omega) ⟨_, ?_, j + 1, by omega, rfl, by omega, ?_, ext.drew⟩) (fun h1 => ?_))
      · omega
      · rw [he]; simp only [Bool.and_eq_true, Bool.and_true] at h1; rw [h1.1, h1.2]; rfl
      · have : decide (L = M) = false := by
          rw [he]
          cases e1 : ((gr L j).1 == (gr M j).1)
          · rfl
          · rw [e1] at h1
            simp only [Bool.and_true, Bool.true_and] at h1
            rw [h1]; rfl
        rw [← this]; exact k _ ext.drew
    · have e1 : L.drop j = [] := List.drop_of_length_le (by omega)
      have e2 : M.drop j = [] := List.drop_of_length_le (by omega)
      have := k w1 ext
      rw [he, e1, e2] at this
      exact this
theorem lawSame_spec {a b : Sl} {w : World} {K : Bool → World → Prop} {L M : List Run} (ha : RdR w.heap a L) (hb : RdR w.heap b M) (hn : L.length ≤ 9223372036854775807) (k : ∀ w', Ext No w w' → K (decide (L = M)) w') : C_law11_same a b w K := by
  apply S_law11_same
  have hla := ha.len
  have hlb := hb.len
  refine If.bne (fun h => ?_) (fun h => ?_)
  · have : decide (L = M) = false := by simp; intro e; subst e; omega
    rw [← this]; exact k w (Ext.refl _ _)
  · refine ⟨fun m t w' => ∃ j : Nat, t = j ∧ m = L.length - j ∧ j ≤ L.length ∧ decide (L = M) = decide (L.drop j = M.drop j) ∧ Ext No w w', ⟨_, 0, rfl, rfl, Nat.zero_le _, rfl, Ext.refl _ _⟩, ?_⟩
    rintro _ m t w1 ⟨j, rfl, rfl, hj, he, ext⟩
    refine If.dec (fun hlt => ?_) (fun hge => ?_)
    · rw [eqL_step (by omega) (by omega)] at he
      refine ⟨Ext No w1, (Ext.refl _ _).drew, Ix.run (ha.no ext) (by omega) hlt fun _ _ _ c1 c2 => ⟨_, Held.cell c1, _, Held.cell1 c2, Ix.run (hb.no ext) (by omega) (by omega) fun _ _ _ c1' c2' => ⟨_, Held.cell c1', _, Held.cell1 c2', ?_⟩⟩⟩
      rw [Int.toNat_natCast]
      refine If.not (If.cases (fun h1 => Ar.i64 (by omega) ⟨_, ?_, j + 1, by omega, rfl, by omega, ?_, ext.drew⟩) (fun h1 => ?_))
      · omega
      · rw [he]; simp only [Bool.and_eq_true, Bool.and_true] at h1; rw [h1.1, h1.2]; rfl
      · have : decide (L = M) = false := by
          rw [he]
          cases e1 : ((gr L j).1 == (gr M j).1)
          · rfl
          · rw [e1] at h1
            simp only [Bool.and_true, Bool.true_and] at h1
            rw [h1]; rfl
        rw [← this]; exact k _ ext.drew
    · have e1 : L.drop j = [] := List.drop_of_length_le (by omega)
      have e2 : M.drop j = [] := List.drop_of_length_le (by omega)
      have := k w1 ext
      rw [he, e1, e2] at this
      exact this
theorem place_spec {s : Sl} {p : Int} {w : World} {K : Int → World → Prop} {L : List Run} (h : RdR w.heap s L) (hn : L.length ≤ 9223372036854775807) (k : ∀ w', Ext No w w' → K (placeN p L) w') : C_runs_place s p w K := by
  apply S_runs_place
  have hl := h.len
  refine ⟨fun m t w' => ∃ j : Nat, t = j ∧ m = L.length - j ∧ j ≤ L.length ∧ placeN p L = j + placeN p (L.drop j) ∧ Ext No w w', ⟨_, 0, rfl, rfl, Nat.zero_le _, by simp, Ext.refl _ _⟩, ?_⟩
  rintro _ m t w1 ⟨j, rfl, rfl, hj, he, ext⟩
  refine If.dec (fun hlt => ?_) (fun hge => ?_)
  · have hjl : j < L.length := by omega
    rw [drop_get hjl, placeN] at he
    refine Ix.run (h.no ext) (by omega) hlt fun b o hb c1 c2 => ⟨_, c1, _, c2, range_run fun b w3 hbs ext3 hb3 => ?_⟩
    rw [Int.toNat_natCast] at hb3
    have ext' := ext.no ext3
    refine ⟨_, Cell.lst hb3 rfl, If.dec (fun h1 => ?_) (fun h1 => ?_)⟩
    · rw [if_pos h1] at he
      have := k w3 ext'
      rw [he] at this
      exact this
    · rw [if_neg h1] at he
      exact Ar.i64 (by omega) ⟨_, by omega, j + 1, by omega, rfl, by omega, by omega, ext'⟩
  · have hnil : L.drop j = [] := List.drop_of_length_le (by omega)
    rw [hnil] at he
    have := k w1 ext
    have e : placeN p L = s.len := by simp only [placeN] at he; omega
    rw [e] at this
    exact this
theorem has_spec {s : Sl} {p : Int} {w : World} {K : Bool → Int → World → Prop} {L : List Run} (h : RdR w.heap s L) (hu : U32 L) (hn : L.length ≤ 9223372036854775807)
    (k : ∀ w', Ext No w w' → K (rightB L && hasB p L) (if rightB L then 0 else 2) w') : C_runs_Has s p w K := by
  apply S_runs_Has
  have hl := h.len
  refine right_spec h hu hn fun w1 ext => If.not (If.cases (fun hr => ?_) (fun hr => ?_))
  · rw [hr] at k
    refine place_spec (h.no ext) hn fun w2 ext2 => ?_
    have ext' := ext.no ext2
    have hp := has_place (p := p) hr
    refine If.dec (fun h1 => ?_) (fun h1 => ?_)
    · refine Ix.run (h.no ext') (by omega) h1 fun _ _ _ c1 c2 => ⟨_, c1, ?_⟩
      have := k w2 ext'
      rw [hp, decide_eq_true (by omega : placeN p L < L.length)] at this
      rw [Int.toNat_natCast]
      simpa using this
    · have := k w2 ext'
      rw [hp, decide_eq_false (by omega : ¬ placeN p L < L.length)] at this
      simpa using this
  · have := k w1 ext
    rw [hr] at this
    exact this
theorem make_spec {a b : Int} {w : World} {K : Sl → World → Prop} (k : ∀ s w', OwnR w'.heap w.heap.size s (mkR a b) → Ext No w w' → K s w') : C_runs_Make a b w K := by
  apply S_runs_Make
  refine If.dec (fun h => k _ _ ?_ (Ext.refl _ _)) (fun h => fun b' w1 new => k _ _ ?_ new.ext)
  · rw [mkR, if_pos h]; exact Own.nil _ _ _ _
  · rw [mkR, if_neg h]; exact Own.new (sz := 2) (n := 1) new rfl (rc_one [(a, b)])
theorem refHas_spec {s : Sl} {p : Int} {w : World} {K : Bool → World → Prop} {L : List Run} (h : RdR w.heap s L) (hn : L.length ≤ 9223372036854775807) (k : K (hasB p L) w) : C_ref11_Has s p w K := by
  apply S_ref11_Has
  have hl := h.len
  refine ⟨fun m t w' => w' = w ∧ ∃ j : Nat, t = j ∧ m = L.length - j ∧ j ≤ L.length ∧ hasB p L = hasB p (L.drop j), ⟨_, rfl, 0, rfl, rfl, Nat.zero_le _, rfl⟩, ?_⟩
  rintro _ m t w1 ⟨rfl, j, rfl, rfl, hj, he⟩
  refine If.dec (fun hlt => ?_) (fun hge => ?_)
  · have hjl : j < L.length := by omega
    rw [drop_get hjl] at he
    simp only [hasB, List.any_cons] at he
    refine Ix.run h (by omega) hlt fun _ _ _ c1 c2 => ⟨_, c1, ?_⟩
    rw [Int.toNat_natCast]
    refine If.dec (fun h1 => Ix.run h (by omega) hlt fun _ _ _ c1 c2 => ⟨_, c2, ?_⟩) (fun h1 => ?_)
    · rw [Int.toNat_natCast]
      refine If.dec (fun h2 => ?_) (fun h2 => ?_)
      · have : hasB p L = true := by unfold hasB; rw [he, decide_eq_true h1, decide_eq_true h2]; rfl
        rw [this] at k; exact k
      · exact Ar.i64 (by omega) ⟨_, by omega, rfl, j + 1, by omega, rfl, by omega, by unfold hasB; rw [he, decide_eq_false h2]; simp⟩
    · exact Ar.i64 (by omega) ⟨_, by omega, rfl, j + 1, by omega, rfl, by omega, by unfold hasB; rw [he, decide_eq_false h1]; simp⟩
  · have hnil : L.drop j = [] := List.drop_of_length_le (by omega)
    rw [hnil] at he
    rw [he] at k
    exact k
end Go.Proofs.Ytomlobgpeobnfaa
