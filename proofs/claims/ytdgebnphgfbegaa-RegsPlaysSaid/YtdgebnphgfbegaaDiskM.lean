/- Layer 8: the document's device: New, Write, Sync, Foreign; the device's Foreign. -/
import Derived.Test.YtdgebnphgfbegaaDiskL
namespace Go.Proofs.Ytdgebnphgfbegaa
open Go.V Go.V.Dk
section
variable {w w' : World} {T T' : Tg} {ko kr : Nat} {s : Sl} {L : List (List Int)} {r : Dev} {D : DS}
/-- One more inner slice is appended. -/
theorem Rows.app {v : Sl} {l : List Int} {b1 : Nat} {K : Sl → World → Prop} (q : Rows w.heap T ko kr s L) (hk : ko ≠ kr) (ov : OwnB w.heap 0 v l) (hv : ∀ b, v.blk = some b → T b = some (kr, L.length)) (old : ∀ b, T b ≠ none → b < w.heap.size)
    (cell : Rd w.heap ⟨some ⟨b1, 0, none⟩, 1, 1⟩ 1 [v.v]) (hL : L.length ≤ 4294967296)
    (k : ∀ s' T' w', Rows w'.heap T' ko kr s' (L ++ [l]) → (∀ b t, T b = some t → T' b = some t) → (∀ b, T' b ≠ none → T b ≠ none ∨ (w.heap.size ≤ b ∧ b < w'.heap.size)) → Ext (fun b => T b = some (ko, 0)) w w' → K s' w') :
    AppW Try.prog T_sl_sl_uint8 T_sl_sl_uint8 s (.slice (some ⟨b1, 0, none⟩) 1 1) K w := by
  have hlen := q.len
  obtain ⟨ins, a, n, c⟩ := q.ex
  refine app_sl_uint8 a (Nat.zero_le _) cell.src (by simp only; omega) fun s' w' o' len' x' blk' => ?_
  have x1 : Ext (fun b => T b = some (ko, 0)) w w' := x'.mono fun b _ hb => q.tag b hb
  have nk : ∀ b t, T b = some (kr, t) → ¬ T b = some (ko, 0) := fun b t h h' => tne h' h hk
  have o2 : Own w'.heap 0 T_sl_uint8 1 s' ((ins ++ [v]).flatMap slC) := by rw [List.flatMap_append, List.flatMap_singleton]; exact o'
  have key : ∀ T' : Tg, (∀ b t, T b = some t → T' b = some t) → ∀ j (h1 : j < (ins ++ [v]).length) (h2 : j < (L ++ [l]).length), OwnB w'.heap 0 (ins ++ [v])[j] (L ++ [l])[j] ∧ ∀ b, (ins ++ [v])[j].blk = some b → T' b = some (kr, j) := by
    intro T' hT j p q
    by_cases e : j < L.length
    · rw [List.getElem_append_left (by omega), List.getElem_append_left e]
      have cc := c j (by omega) e
      exact ⟨cc.1.ext x1 fun b hb h => nk b _ (cc.2 b hb) h, fun b hb => hT _ _ (cc.2 b hb)⟩
    · have ej : j = L.length := by simp at q; omega
      subst ej
      rw [List.getElem_append_right (by omega), List.getElem_append_right (by omega)]
      simp only [n, Nat.sub_self, List.getElem_cons_zero]
      exact ⟨ov.ext x1 fun b hb h => nk b _ (hv b hb) h, fun b hb => hT _ _ (hv b hb)⟩
  rcases blk' with hb | ⟨b', hb, hge⟩
  · exact k s' T w' ⟨⟨ins ++ [v], o2, by simp [n], key T fun _ _ h => h⟩, fun b h => q.tag b (by rw [← hb]; exact h)⟩ (fun _ _ h => h) (fun _ h => .inl h) x1
  · have hn : T b' = none := Classical.byContradiction fun h => by have := old b' h; omega
    have hT : ∀ b t, T b = some t → (T.add b' (ko, 0)) b = some t := fun b t h => Tg.add_old hn h
    refine k s' (T.add b' (ko, 0)) w' ⟨⟨ins ++ [v], o2, by simp [n], key _ hT⟩, fun b h => ?_⟩ hT (fun b h => ?_) x1
    · rw [hb] at h; cases h; exact Tg.add_same _ _ _
    · rcases Tg.add_or h with h | h
      · exact .inl h
      · subst h; exact .inr ⟨hge, (o'.lt hb).2⟩
theorem WRows.app {W : List (Int × List Int)} {i : Int} {v : Sl} {l : List Int} {b1 : Nat} {K : Sl → World → Prop} (q : WRows w.heap T s W) (ov : RdB w.heap v l) (hv : ∀ b, v.blk = some b → T b = some (6, 0)) (old : ∀ b, T b ≠ none → b < w.heap.size)
    (cell : Rd w.heap ⟨some ⟨b1, 0, none⟩, 1, 1⟩ 2 (wC (i, v))) (hL : W.length ≤ 4294967296)
    (k : ∀ s' T' w', WRows w'.heap T' s' (W ++ [(i, l)]) → (∀ b t, T b = some t → T' b = some t) → (∀ b, T' b ≠ none → T b ≠ none ∨ (w.heap.size ≤ b ∧ b < w'.heap.size)) → Ext (fun b => T b = some (5, 0)) w w' → K s' w') :
    AppW Try.prog T_sl_donjonref08_Wait T_sl_donjonref08_Wait s (.slice (some ⟨b1, 0, none⟩) 1 1) K w := by
  have hlen := q.len
  obtain ⟨ins, a, n, c⟩ := q.ex
  refine app_donjonref08_Wait a (Nat.zero_le _) cell.src (by simp only; omega) fun s' w' o' len' x' blk' => ?_
  have x1 : Ext (fun b => T b = some (5, 0)) w w' := x'.mono fun b _ hb => q.tag b hb
  have nk : ∀ b, T b = some (6, 0) → ¬ T b = some (5, 0) := fun b h h' => tne h' h (by decide)
  have o2 : Own w'.heap 0 T_donjonref08_Wait 2 s' ((ins ++ [(i, v)]).flatMap wC) := by rw [List.flatMap_append, List.flatMap_singleton]; exact o'
  have key : ∀ T' : Tg, (∀ b t, T b = some t → T' b = some t) → ∀ j (h1 : j < (ins ++ [(i, v)]).length) (h2 : j < (W ++ [(i, l)]).length), (ins ++ [(i, v)])[j].1 = (W ++ [(i, l)])[j].1 ∧ RdB w'.heap (ins ++ [(i, v)])[j].2 (W ++ [(i, l)])[j].2 ∧ ∀ b, (ins ++ [(i, v)])[j].2.blk = some b → T' b = some (6, 0) := by
    intro T' hT j p q
    by_cases e : j < W.length
    · rw [List.getElem_append_left (by omega), List.getElem_append_left e]
      have cc := c j (by omega) e
      exact ⟨cc.1, cc.2.1.ext x1 fun a b ha hb h => nk b (cc.2.2 b (by simp [Sl.blk, ha, hb])) h, fun b hb => hT _ _ (cc.2.2 b hb)⟩
    · have ej : j = W.length := by simp at q; omega
      subst ej
      rw [List.getElem_append_right (by omega), List.getElem_append_right (by omega)]
      simp only [n, Nat.sub_self, List.getElem_cons_zero]
      exact ⟨trivial, ov.ext x1 fun a b ha hb h => nk b (hv b (by simp [Sl.blk, ha, hb])) h, fun b hb => hT _ _ (hv b hb)⟩
  rcases blk' with hb | ⟨b', hb, hge⟩
  · exact k s' T w' ⟨⟨ins ++ [(i, v)], o2, by simp [n], key T fun _ _ h => h⟩, fun b h => q.tag b (by rw [← hb]; exact h)⟩ (fun _ _ h => h) (fun _ h => .inl h) x1
  · have hn : T b' = none := Classical.byContradiction fun h => by have := old b' h; omega
    have hT : ∀ b t, T b = some t → (T.add b' (5, 0)) b = some t := fun b t h => Tg.add_old hn h
    refine k s' (T.add b' (5, 0)) w' ⟨⟨ins ++ [(i, v)], o2, by simp [n], key _ hT⟩, fun b h => ?_⟩ hT (fun b h => ?_) x1
    · rw [hb] at h; cases h; exact Tg.add_same _ _ _
    · rcases Tg.add_or h with h | h
      · exact .inl h
      · subst h; exact .inr ⟨hge, (o'.lt hb).2⟩
theorem RefR.tags (q : RefR w.heap T r D) (hT : ∀ b t, T b = some t → T' b = some t) (old : ∀ b, T' b ≠ none → b < w.heap.size) : RefR w.heap T' r D :=
  ⟨q.blk, hT _ _ q.hb, q.now.tags hT, q.firm.tags hT, q.waits.tags hT, old, q.wf⟩
/-- A new block is tagged. -/
theorem RefR.add {b : Nat} {t : Nat × Nat} (q : RefR w.heap T r D) (x : Ext No w w') (h1 : w.heap.size ≤ b) (h2 : b < w'.heap.size) : RefR w'.heap (T.add b t) r D := by
  have hn : T b = none := Classical.byContradiction fun h => by have := q.old b h; omega
  refine (q.no x).tags (fun i u h => Tg.add_old hn h) fun i h => ?_
  rcases Tg.add_or h with h | h
  · exact Nat.lt_of_lt_of_le (q.old i h) x.size
  · omega
theorem RefR.setNow {N : List (List Int)} (q : RefR w.heap T r D) (o : Rows w'.heap T 1 2 r.sn N) (x : Ext (fun b => ∃ t, T b = some t ∧ (t.1 = 1 ∨ t.1 = 2)) w w') (wf : WF { D with now := N }) : RefR w'.heap T r { D with now := N } := by
  have ne : ∀ b u, T b = some u → u.1 ≠ 1 → u.1 ≠ 2 → ¬ ∃ t, T b = some t ∧ (t.1 = 1 ∨ t.1 = 2) := fun b u h h1 h2 ⟨t, ht, hh⟩ => by
    rw [h] at ht; cases ht; omega
  exact ⟨by rw [x.blk _ (blt q.blk) (ne _ _ q.hb (by decide) (by decide))]; exact q.blk, q.hb, o, q.firm.ext x (fun b h => ne b _ h (by decide) (by decide)) fun b j h => ne b _ h (by simp) (by simp),
    q.waits.ext x (fun b h => ne b _ h (by decide) (by decide)) fun b h => ne b _ h (by decide) (by decide), fun b h => Nat.lt_of_lt_of_le (q.old b h) x.size, wf⟩
theorem RefR.setFirm {N : List (List Int)} (q : RefR w.heap T r D) (o : Rows w'.heap T 3 4 r.sf N) (x : Ext (fun b => ∃ t, T b = some t ∧ (t.1 = 3 ∨ t.1 = 4)) w w') (wf : WF { D with firm := N }) : RefR w'.heap T r { D with firm := N } := by
  have ne : ∀ b u, T b = some u → u.1 ≠ 3 → u.1 ≠ 4 → ¬ ∃ t, T b = some t ∧ (t.1 = 3 ∨ t.1 = 4) := fun b u h h1 h2 ⟨t, ht, hh⟩ => by
    rw [h] at ht; cases ht; omega
  exact ⟨by rw [x.blk _ (blt q.blk) (ne _ _ q.hb (by decide) (by decide))]; exact q.blk, q.hb, q.now.ext x (fun b h => ne b _ h (by decide) (by decide)) (fun b j h => ne b _ h (by simp) (by simp)), o,
    q.waits.ext x (fun b h => ne b _ h (by decide) (by decide)) fun b h => ne b _ h (by decide) (by decide), fun b h => Nat.lt_of_lt_of_le (q.old b h) x.size, wf⟩
theorem RefR.setWaits {s : Sl} {W : List (Int × List Int)} (q : RefR w.heap T r D) (o : WRows w.heap T s W) (hw : Wrt w r.b (.cells (diskC ⟨r.b, r.sn, r.sf, s⟩ D.steps D.fail D.cut D.down).toArray T_donjonref08_Disk (0, 0)) w') (wf : WF { D with waits := W }) :
    RefR w'.heap T ⟨r.b, r.sn, r.sf, s⟩ { D with waits := W } := by
  have ne : ∀ b t, T b = some t → t.1 ≠ 0 → ¬ b = r.b := fun b t h hn e => by subst e; exact tne h q.hb hn
  exact ⟨hw.get q.blk, q.hb, q.now.ext hw.ext (fun b h => ne b _ h (by decide)) fun b j h => ne b _ h (by simp), q.firm.ext hw.ext (fun b h => ne b _ h (by decide)) fun b j h => ne b _ h (by simp), o.ext hw.ext (fun b h => ne b _ h (by decide)) fun b h => ne b _ h (by decide),
    fun b h => by rw [hw.size]; exact q.old b h, wf⟩
theorem blkE {h : Array Obj} {base : Nat} {s : Sl} {l : List Int} (o : OwnB h base s l) (hl : 0 < l.length) : ∃ b, s.blk = some b ∧ base ≤ b ∧ b < h.size := by
  obtain ⟨b, rest, ha, hle, hb, _⟩ := o.place (by intro e; simp at e; subst e; simp at hl)
  exact ⟨b, by simp [Sl.blk, ha], hle, (Array.getElem?_eq_some_iff.1 hb).1⟩
theorem refWrite_spec {i : Int} {b : Sl} {bs : List Int} {K : Int → World → Prop} (q : RefR w.heap T r D) (hb : RdB w.heap b bs) (h8 : B8 bs) (hfp : bs ≠ [] → ∀ i, b.blk = some i → T i = none) (hs : 0 ≤ D.steps ∧ D.steps < 18446744073709551615) (hw : D.waits.length ≤ 4294967296)
    (k : ∀ T' r' w', RefR w'.heap T' r' (writeR D i bs).2 → GrowT w T T' r r' → Ext (fun b => T b ≠ none) w w' → K (writeR D i bs).1 w') : C_ref08_Disk_Write r.p i b w K := by
  apply S_ref08_Disk_Write
  have hbl := RdB.len hb
  refine ⟨fun w' => w' = w ∧ hasB D i = true ∧ bs.length = 256, ?_, ?_⟩
  · have bad : ¬ (hasB D i = true ∧ bs.length = 256) → K 2 w := fun h => by
      have e : writeR D i bs = (2, D) := by unfold writeR; rw [if_neg h]
      rw [e] at k; exact k T r w q (GrowT.refl _ _ _) (Ext.refl _ _)
    exact refHas_spec q (If.not (If.cases (fun h => If.bne (fun h1 => bad (by omega)) (fun h1 => ⟨rfl, h, by omega⟩)) (fun h => bad (by rw [h]; simp))))
  rintro _ w0 ⟨rfl, hh, hl⟩
  have hfp := hfp (by intro e; subst e; simp at hl)
  have hi : 0 ≤ i ∧ i < D.now.length := by simpa [hasB] using hh
  refine refStep_spec q hs fun w3 q3 x3 z3 => ?_
  have xt3 := q.ext0 x3
  have hsm := step_same D
  refine If.bne (fun he => ?_) (fun he => ?_)
  · have e : writeR D i bs = stepD D := by unfold writeR; rw [if_pos ⟨hh, hl⟩, if_neg he]
    rw [e] at k; exact k T r w3 q3 (GrowT.refl _ _ _) xt3
  have e : writeR D i bs = (0, writeD (stepD D).2 i bs) := by unfold writeR; rw [if_pos ⟨hh, hl⟩, if_pos he]
  rw [e] at k
  generalize (stepD D).2 = D3 at *
  have hb3 : RdB w3.heap b bs := Rd.ext hb x3 fun a j ha hj h => by
    have h1 := hfp j (by simp [Sl.blk, ha, hj])
    have h' : j = r.b := h
    subst h'; rw [q.hb] at h1; cases h1
  have ln := q3.now.len
  refine ⟨Ext (fun b => T b = some (1, 0)) w3, (Ext.refl _ _).drew, Nn.mk ⟨r.sn, Held.but (Cell.lst q3.blk rfl) (fun h => tne h q.hb (by decide)), copy_spec (w := drewW w3) hb3 (by omega) fun v w4 o4 x4 => ?_⟩⟩
  have x4 := x4.drew_left
  have o4 : OwnB w4.heap w3.heap.size v bs := o4
  obtain ⟨b4, hb4, h4a, h4b⟩ := blkE o4 (by omega)
  have q4 := q3.add (t := (2, i.toNat)) x4 h4a h4b
  have hn4 : T b4 = none := Classical.byContradiction fun h => by have := q3.old b4 h; omega
  have i3 : i.toNat < D3.now.length := by rw [hsm.1]; omega
  refine ⟨x4.of_no, q4.now.put (by decide) (o4.mono (Nat.zero_le _)) (fun j hj => by rw [hb4] at hj; cases hj; exact Tg.add_same _ _ _) hi.1 (by rw [ln, hsm.1]; omega) fun w5 rows5 x5 z5 => ?_⟩
  have x5' : Ext (fun b => T b = some (1, 0)) w4 w5 := x5.mono fun j _ h => by
    unfold Tg.add at h; split at h
    · simp at h
    · exact h
  have xw5 : Ext (fun b => T b = some (1, 0)) w3 w5 := x4.of_no.trans x5' fun _ _ h => h
  have q5 : RefR w5.heap (T.add b4 (2, i.toNat)) r { D3 with now := D3.now.set i.toNat bs } := q4.setNow rows5 (x5.mono fun j _ h => ⟨_, h, .inl rfl⟩) ⟨by simp [q3.wf.n], by simp [q3.wf.lo], by simp [q3.wf.hi], set_rows q3.wf.rn ⟨hl, h8⟩, q3.wf.rf, by simpa using q3.wf.rw, q3.wf.fl, q3.wf.ct⟩
  generalize hT5 : T.add b4 (2, i.toNat) = T5 at *
  have t5 : ∀ j, T5 j ≠ none → T j ≠ none ∨ w0.heap.size ≤ j := fun j h => by
    rw [← hT5] at h
    rcases Tg.add_or h with h | h
    · exact .inl h
    · right; omega
  have hb5 : RdB w5.heap b bs := Rd.ext hb3 xw5 fun a j ha hj h => by
    have := hfp j (by simp [Sl.blk, ha, hj]); rw [this] at h; cases h
  have s5 : w3.heap.size ≤ w5.heap.size := xw5.size
  refine ⟨xw5, Ext (fun b => T5 b = some (5, 0)) w5, (Ext.refl _ _).drew, Nn.mk ⟨r.sw, Held.but (Cell.lst q5.blk rfl) (fun h => tne h q5.hb (by decide)), copy_spec (w := drewW w5) hb5 (by omega) fun v2 w6 o6 x6 => ?_⟩⟩
  have x6 := x6.drew_left
  have o6 : OwnB w6.heap w5.heap.size v2 bs := o6
  obtain ⟨b6, hb6, h6a, h6b⟩ := blkE o6 (by omega)
  refine ⟨x6.of_no, fun b7 w7 n7 => ⟨(x6.no n7.ext).of_no, ?_⟩⟩
  have z7 := n7.size
  have q7 := q5.add (t := (6, 0)) (x6.no n7.ext) h6a (by omega)
  have c7 : Rd w7.heap ⟨some ⟨b7, 0, none⟩, 1, 1⟩ 2 (wC (i, v2)) := (Own.new (sz := 2) (n := 1) n7 rfl (by simp [oneC])).rd
  have hn6 : T5 b6 = none := Classical.byContradiction fun h => by have := q5.old b6 h; omega
  have hwl : D3.waits.length ≤ 4294967296 := by rw [hsm.2.2]; exact hw
  refine q7.waits.app (o6.rd.no n7.ext) (fun j hj => by rw [hb6] at hj; cases hj; exact Tg.add_same _ _ _) q7.old c7 hwl fun s8 T8 w8 rows8 t8 t8' x8 => ?_
  have x8' : Ext (fun b => T5 b = some (5, 0)) w7 w8 := x8.mono fun j _ h => by
    unfold Tg.add at h; split at h
    · simp at h
    · exact h
  have xw8 : Ext (fun b => T5 b = some (5, 0)) w5 w8 := (x6.no n7.ext).of_no.trans x8' fun _ _ h => h
  have z8 := x8.size
  have hd8 : ¬ (T5.add b6 (6, 0)) r.b = some (5, 0) := fun h => tne h q7.hb (by decide)
  refine ⟨xw8, Nn.mk (St1.mk (by rw [x8.blk _ (blt q7.blk) hd8]; exact q7.blk) (by simp) rfl fun w9 hw9 => ?_)⟩
  have ne : ∀ b t, (T5.add b6 (6, 0)) b = some t → t.1 ≠ 5 → ¬ (T5.add b6 (6, 0)) b = some (5, 0) := fun b t h hn h' => tne h h' hn
  have nb : ∀ b t, T8 b = some t → t.1 ≠ 0 → ¬ b = r.b := fun b t h hn e => by subst e; exact tne h (t8 _ _ q7.hb) hn
  have now8 := (q7.now.ext x8 (fun b h => ne b _ h (by decide)) fun b j h => ne b _ h (by simp)).tags t8
  have firm8 := (q7.firm.ext x8 (fun b h => ne b _ h (by decide)) fun b j h => ne b _ h (by simp)).tags t8
  refine k T8 ⟨r.b, r.sn, r.sf, s8⟩ w9 ⟨?_, t8 _ _ q7.hb, now8.ext hw9.ext (fun b h => nb b _ h (by decide)) fun b j h => nb b _ h (by simp), firm8.ext hw9.ext (fun b h => nb b _ h (by decide)) fun b j h => nb b _ h (by simp), rows8.ext hw9.ext (fun b h => nb b _ h (by decide)) fun b h => nb b _ h (by decide), fun j h => ?_, write_wf q3.wf (by rw [hsm.1]; exact hi) ⟨hl, h8⟩⟩ ⟨rfl, fun j h => ?_⟩ ?_
  · exact hw9.get (by rw [x8.blk _ (blt q7.blk) hd8]; exact q7.blk)
  · rw [hw9.size]
    rcases t8' j h with h | h
    · have := q7.old j h; omega
    · omega
  · rcases t8' j h with h | h
    · rcases Tg.add_or h with h | h
      · exact t5 j h
      · right; omega
    · right; omega
  · have e1 : Ext (fun b => T b ≠ none) w0 w5 := xt3.trans xw5 fun j _ h => by rw [h]; simp
    refine (e1.trans xw8 fun j hj h => ?_).trans hw9.ext fun j hj h => ?_
    · rcases t5 j (by rw [h]; simp) with h | h
      · exact h
      · omega
    · have h' : j = r.b := h
      subst h'; rw [q.hb]; simp
end
end Go.Proofs.Ytdgebnphgfbegaa
