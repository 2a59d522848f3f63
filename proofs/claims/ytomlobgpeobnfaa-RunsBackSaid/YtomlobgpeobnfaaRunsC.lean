/- Layer 11: counting, and functions that make lists. -/
import Derived.Test.YtomlobgpeobnfaaRunsB
namespace Go.Proofs.Ytomlobgpeobnfaa
open Go.V Go.V.Rn
theorem okFrom_drop : ∀ {e : Int} {l : List Run} (j : Nat), okFrom e l = true → ∃ e', okFrom e' (l.drop j) = true ∧ e ≤ e'
  | e, l, 0, h => ⟨e, by simpa using h, Int.le_refl _⟩
  | e, [], j + 1, h => ⟨e, by simpa using h, Int.le_refl _⟩
  | e, r :: l, j + 1, h => by
    simp only [okFrom, Bool.and_eq_true, decide_eq_true_eq] at h
    obtain ⟨e', h1, h2⟩ := okFrom_drop j h.2.2
    exact ⟨e', by simpa using h1, by omega⟩
theorem countI_nonneg : ∀ {e : Int} {l : List Run}, okFrom e l = true → 0 ≤ countI l
  | e, [], _ => by simp [countI]
  | e, r :: l, h => by
    simp only [okFrom, Bool.and_eq_true, decide_eq_true_eq] at h
    have := countI_nonneg h.2.2
    simp only [countI]; omega
theorem count_step {L : List Run} {j : Nat} (hr : rightB L = true) (hj : j < L.length) : countI (L.drop j) = ((gr L j).2 - (gr L j).1) + countI (L.drop (j + 1)) ∧ 0 ≤ countI (L.drop (j + 1)) ∧ (gr L j).1 < (gr L j).2 := by
  obtain ⟨e1, h1, _⟩ := okFrom_drop j hr
  obtain ⟨e2, h2, _⟩ := okFrom_drop (j + 1) hr
  rw [drop_get hj] at h1 ⊢
  simp only [okFrom, Bool.and_eq_true, decide_eq_true_eq] at h1
  exact ⟨rfl, countI_nonneg h2, h1.1⟩
theorem count_spec {s : Sl} {w : World} {K : Int → Int → World → Prop} {L : List Run} (h : RdR w.heap s L) (hu : U32 L) (hn : L.length ≤ 9223372036854775807)
    (k : ∀ w', Ext No w w' → K (if rightB L then countI L else 0) (if rightB L then 0 else 2) w') : C_runs_Count s w K := by
  apply S_runs_Count
  have hl := h.len
  refine right_spec h hu hn fun w1 ext => If.not (If.cases (fun hr => ?_) (fun hr => ?_))
  · rw [hr] at k
    have hc := countI_range hr hu (by omega) (by omega)
    refine ⟨fun m n t w' => ∃ j : Nat, t = j ∧ m = L.length - j ∧ j ≤ L.length ∧ 0 ≤ n ∧ n + countI (L.drop j) = countI L ∧ Ext No w w', ⟨_, 0, rfl, rfl, Nat.zero_le _, Int.le_refl _, by simp, ext⟩, ?_⟩
    rintro _ m n t w2 ⟨j, rfl, rfl, hj, hn0, he, ext2⟩
    refine If.dec (fun hlt => ?_) (fun hge => ?_)
    · obtain ⟨e1, e2, e3⟩ := count_step hr (show j < L.length by omega)
      have hg := hu.get j
      refine Ix.run (h.no ext2) (by omega) hlt fun b o hb c1 c2 => ⟨_, c1, _, c2, range_run fun b w3 hbs ext3 hb3 => ?_⟩
      rw [Int.toNat_natCast] at hb3
      refine ⟨_, Cell.lst hb3 rfl, _, Cell.lst hb3 rfl, Ar.u32 (by omega) (Ar.u64 (by omega) (Ar.u64 (by omega) (Ar.i64 (by omega) ⟨_, ?_, j + 1, by omega, rfl, by omega, by omega, by omega, ext2.no ext3⟩)))⟩
      omega
    · have hnil : L.drop j = [] := List.drop_of_length_le (by omega)
      rw [hnil] at he
      have := k w2 ext2
      have e : n = countI L := by simp only [countI] at he; omega
      rw [e]; exact this
  · have := k w1 ext
    rw [hr] at this
    exact this
theorem refCount_spec {s : Sl} {w : World} {K : Int → World → Prop} {L : List Run} (h : RdR w.heap s L) (hu : U32 L) (hn : L.length ≤ 9223372036854775807) (hr : rightB L = true) (k : ∀ w', Ext No w w' → K (countI L) w') : C_ref11_Count s w K := by
  apply S_ref11_Count
  have hl := h.len
  have hc := countI_range hr hu (by omega) (by omega)
  refine ⟨fun m n t w' => ∃ j : Nat, t = j ∧ m = L.length - j ∧ j ≤ L.length ∧ 0 ≤ n ∧ n + countI (L.drop j) = countI L ∧ Ext No w w', ⟨_, 0, rfl, rfl, Nat.zero_le _, Int.le_refl _, by simp, Ext.refl _ _⟩, ?_⟩
  rintro _ m n t w2 ⟨j, rfl, rfl, hj, hn0, he, ext2⟩
  refine If.dec (fun hlt => ?_) (fun hge => ?_)
  · obtain ⟨e1, e2, e3⟩ := count_step hr (show j < L.length by omega)
    have hg := hu.get j
    refine ⟨Ext No w2, (Ext.refl _ _).drew, Ix.run (h.no ext2) (by omega) hlt fun b o hb c1 c2 => ⟨_, Held.cell1 c2, ?_⟩⟩
    rw [Int.toNat_natCast]
    refine Ar.u64 (by omega) (Ar.u64 (by omega) (Ix.run (h.no ext2) (by omega) hlt fun b o hb c1 c2 => ⟨_, Held.cell c1, ?_⟩))
    rw [Int.toNat_natCast]
    refine Ar.u64 (by omega) (Ar.u64 (by omega) (Ar.i64 (by omega) ⟨_, ?_, j + 1, by omega, rfl, by omega, by omega, by omega, ext2.drew⟩))
    omega
  · have hnil : L.drop j = [] := List.drop_of_length_le (by omega)
    rw [hnil] at he
    have := k w2 ext2
    have e : n = countI L := by simp only [countI] at he; omega
    rw [e]; exact this
theorem St1.run {w : World} {base : Nat} {s : Sl} {L : List Run} {i z : Int} {K : World → Prop} (o : OwnR w.heap base s L) (h0 : 0 ≤ i) (h1 : i < (s.len : Int))
    (k : ∀ w', OwnR w'.heap base s (setTo L i.toNat z) → Ext (fun b => s.blk = some b) w w' → w'.heap.size = w.heap.size → K w') : Ix s.a s.len i 2 fun a => St1 w (a.add 1) (.int .u32 z) K := by
  have hl := OwnR.len o
  have hrc := rc_len L
  have hset := rc_setTo L i.toNat z (by omega)
  rcases o.is with ⟨rfl, hn⟩ | ⟨b, rest, ha, hle, hb, hc, hcap⟩
  · simp at h1; omega
  · refine ⟨_, ha, h0, h1, ?_⟩
    rw [addr_add_none rfl]
    show St1 w (Addr.add ⟨b, 0 + i.toNat * 2, none⟩ 1) _ _
    rw [addr_add_none rfl, Nat.zero_add]
    refine St1.mk hb (by simp; omega) rfl fun w' hw => k w' ⟨by rw [rc_len, setTo_len, hl], .inr ⟨b, rest, ha, hle, ?_, ?_, hcap⟩, rc_one _⟩ (hw.ext.mono fun j _ hj => by subst hj; simp [Sl.blk, ha]) hw.size
    · rw [hw.get hb, List.set_append_left _ _ (by simp only; omega), hset]
    · rw [hset]; simpa using hc
theorem add_spec {l : Sl} {r : Run} {w : World} {base : Nat} {K : Sl → World → Prop} {L : List Run} (o : OwnR w.heap base l L) (hbase : base ≤ w.heap.size) (hn : L.length ≤ 8796093022208)
    (k : ∀ s w', OwnR w'.heap base s (addR L r) → Ext (fun b => l.blk = some b) w w' → (s.blk = l.blk ∨ ∃ b, s.blk = some b ∧ w.heap.size ≤ b) → K s w') : C_runs_add l r.1 r.2 w K := by
  apply S_runs_add
  have hl := OwnR.len o
  intro b w1 new
  have own1 := o.no new.ext
  have hb1 : ∀ i, l.blk = some i → i ≠ b := fun i hi e => by have := (o.lt hi).2; have := new.at_; omega
  refine ⟨fun t w2 => t = decide (0 < L.length ∧ r.1 ≤ lastTo L) ∧ w2 = drewW w1, ?_, ?_⟩
  · refine ⟨Ext No w1, (Ext.refl _ _).drew, If.dec (fun h => ?_) (fun h => ⟨?_, rfl⟩)⟩
    · refine ⟨_, Held.cell (Cell.lst new.get rfl), Ar.i64 (by omega) (Ix.run own1.rd (by omega) (by omega) fun _ _ _ c1 c2 => ⟨_, Held.cell1 c2, ?_, rfl⟩)⟩
      rw [decide_eq_decide, show ((l.len : Int) - 1).toNat = L.length - 1 by omega]
      exact ⟨fun h' => ⟨by omega, h'⟩, fun h' => h'.2⟩
    · symm; rw [decide_eq_false_iff_not]; intro h'; omega
  · rintro _ t w2 ⟨rfl, rfl⟩
    refine If.dec (fun h => ⟨fun _ => True, trivial, ?_⟩) (fun h => ?_)
    · have hadd : addR L r = setTo L (L.length - 1) (iMax (lastTo L) r.2) := by unfold addR; rw [if_pos h]
      have e1 : ((l.len : Int) - 1).toNat = L.length - 1 := by omega
      have own2 : OwnR (drewW (drewW w1)).heap base l L := own1
      have hbl : (drewW (drewW w1)).heap[b]? = some (pairO r.1 r.2) := new.get
      have fin : ∀ z, z = iMax (lastTo L) r.2 → Ix l.a l.len ((l.len : Int) - 1) 2 fun a => St1 (drewW (drewW w1)) (a.add 1) (.int .u32 z) fun w3 => True ∧ K l w3 := fun z hz =>
        St1.run own2 (by omega) (by omega) fun w3 own3 ext3 _ => ⟨trivial, k l w3 (by rw [hadd, ← hz, ← e1]; exact own3) ((new.ext.of_no.trans ext3.drew_left.drew_left fun _ _ h => h)) (.inl rfl)⟩
      refine Ar.i64 (by omega) (Ar.i64 (by omega) (Ix.run own2.rd (by omega) (by omega) fun _ _ _ c1 c2 => ⟨?_, ?_⟩))
      · exact ⟨_, c2, trivial, _, Cell.lst hbl rfl, trivial, Nm.mk (fin _ (by rw [e1]; rfl))⟩
      · exact ⟨_, Cell.lst hbl rfl, trivial, _, c2, trivial, Nm.mk (fin _ (by rw [e1]; rfl))⟩
    · have hadd : addR L r = L ++ [r] := by unfold addR; rw [if_neg h]
      refine ⟨_, Cell.lst (w := drewW w1) new.get rfl, _, Cell.lst (w := drewW w1) new.get rfl, fun b2 w3 new2 => ?_⟩
      have := new.size
      have := new2.size
      have own2 : OwnR (drewW w1).heap base l L := own1
      refine app_api_Run (own2.no (w := drewW w1) new2.ext) (by simp [drewW] at *; omega) ((Own.new (sz := 2) (n := 1) new2 rfl (rc_one [r])).rd.src) (by simp only; omega) fun s' w4 own' _ ext' hblk => ?_
      refine k s' w4 (by rw [hadd, OwnR, rc_app]; exact own') (((new.ext.drew.no new2.ext).of_no (S := fun b => l.blk = some b)).trans ext' fun _ _ h => h) ?_
      rcases hblk with h | ⟨b', h, hge⟩
      · exact .inl h
      · exact .inr ⟨b', h, by simp [drewW] at *; omega⟩
end Go.Proofs.Ytomlobgpeobnfaa
