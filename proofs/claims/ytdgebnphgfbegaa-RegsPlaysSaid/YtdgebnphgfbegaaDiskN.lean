/- Layer 8: the document's device: New, Sync, Foreign; the device's Foreign. -/
import Derived.Test.YtdgebnphgfbegaaDiskM
namespace Go.V.Dk
open Go.V
theorem set_take_drop {α : Type} {a b : List α} {j : Nat} (h1 : j < a.length) (h2 : j < b.length) : (a.take j ++ b.drop j).set j a[j] = a.take (j + 1) ++ b.drop (j + 1) := by
  have e : j - (a.take j).length = 0 := by rw [List.length_take]; omega
  rw [List.set_append_right _ _ (by rw [List.length_take]; omega), e, List.drop_eq_getElem_cons h2, List.set_cons_zero, List.take_succ_eq_append_getElem h1, List.append_assoc]
  rfl
theorem splice_nil (r : List Int) (o : Nat) : splice r o [] = r := by simp [splice]
theorem splice_set {r bs : List Int} {o k : Nat} (hk : k < bs.length) (hle : o + bs.length ≤ r.length) : (splice r o (bs.take k)).set (o + k) bs[k] = splice r o (bs.take (k + 1)) := by
  have hl : (r.take o).length = o := by rw [List.length_take]; omega
  have hl2 : (bs.take k).length = k := by rw [List.length_take]; omega
  have hl3 : (bs.take (k + 1)).length = k + 1 := by rw [List.length_take]; omega
  unfold splice
  rw [List.set_append_right _ _ (by omega), hl, show o + k - o = k by omega, List.set_append_right _ _ (by omega), hl2, Nat.sub_self, hl3, List.drop_eq_getElem_cons (show o + k < r.length by omega), List.set_cons_zero, List.take_succ_eq_append_getElem hk, List.append_assoc]
  rfl
theorem set_getD {l : List (List Int)} {i : Nat} : l.set i (l.getD i []) = l := by
  by_cases h : i < l.length
  · have : l.getD i [] = l[i] := by simp [List.getD, h]
    rw [this]; simp
  · rw [List.set_eq_of_length_le (by omega)]
theorem getD_eq {l : List (List Int)} {i : Nat} (h : i < l.length) : l.getD i [] = l[i] := by simp [List.getD, h]
end Go.V.Dk
namespace Go.Proofs.Ytdgebnphgfbegaa
open Go.V Go.V.Dk
section
variable {w w' : World} {T T' : Tg} {r : Dev} {D : DS}
/-- A row is copied from one list to the other. -/
theorem copyRow {ko kr ks kt : Nat} {st ss : Sl} {LT LS : List (List Int)} {i : Nat} {G : World → Prop} (tgt : Rows w.heap T ko kr st LT) (src : Rows w.heap T ks kt ss LS) (hk : ko ≠ kr) (hk' : ks ≠ kt) (hks : ks ≠ ko) (old : ∀ b, T b ≠ none → b < w.heap.size)
    (h1 : i < LS.length) (h2 : i < LT.length) (hr : Row LS[i])
    (k : ∀ T' w4, (∀ b t, T b = some t → T' b = some t) → (∀ b, T' b ≠ none → T b ≠ none ∨ (w.heap.size ≤ b ∧ b < w4.heap.size)) → Rows w4.heap T' ko kr st (LT.set i LS[i]) → Ext (fun b => T b = some (ko, 0)) w w4 → G w4) :
    Ix ss.a ss.len (i : Int) 1 fun a => ∃ v : Sl, Held (Ext (fun b => T b = some (ko, 0)) w) a (.slice v.a v.len v.cap) ∧ C_ref01_Copy v (drewW w) fun r1 w3 => Ext (fun b => T b = some (ko, 0)) w w3 ∧
      Ix st.a st.len (i : Int) 1 fun a4 => St1 w3 a4 (.slice r1.a r1.len r1.cap) fun w4 => Ext (fun b => T b = some (ko, 0)) w w4 ∧ G w4 := by
  have hl1 := src.len
  have hl2 := tgt.len
  refine src.ix hk' (by omega) (by omega) fun b o v hi hb hc ov tv _ => ⟨v, Held.but hc (fun h => tne h (src.tag b hb) (Ne.symm hks)), copy_spec (w := drewW w) ov.rd (by have := hr.1; simp only [Int.toNat_natCast]; omega) fun v3 w3 o3 x3 => ?_⟩
  have x3 := x3.drew_left
  have o3 : OwnB w3.heap w.heap.size v3 LS[((i : Int)).toNat] := o3
  simp only [Int.toNat_natCast] at o3
  obtain ⟨b3, hb3, h3a, h3b⟩ := blkE o3 (by rw [hr.1]; decide)
  have hn : T b3 = none := Classical.byContradiction fun h => by have := old b3 h; omega
  have hT : ∀ b t, T b = some t → (T.add b3 (kr, i)) b = some t := fun b t h => Tg.add_old hn h
  refine ⟨x3.of_no, ((tgt.no x3).tags hT).put hk (o3.mono (Nat.zero_le _)) (fun j hj => by rw [hb3] at hj; cases hj; exact Tg.add_same _ _ _) (by omega) (by omega) fun w4 rows4 x4 z4 => ?_⟩
  have x4' : Ext (fun b => T b = some (ko, 0)) w3 w4 := x4.mono fun j _ h => by
    unfold Tg.add at h; split at h
    · simp only [Option.some.injEq, Prod.mk.injEq] at h; exact absurd h.1.symm hk
    · exact h
  have xw : Ext (fun b => T b = some (ko, 0)) w w4 := x3.of_no.trans x4' fun _ _ h => h
  simp only [Int.toNat_natCast] at rows4
  refine ⟨xw, k _ w4 hT (fun b h => ?_) rows4 xw⟩
  rcases Tg.add_or h with h | h
  · exact .inl h
  · right; omega
theorem flat_one {α : Type} (n : Nat) (a : α) : (List.replicate n [a]).flatten = List.replicate n a := by simp
theorem zeroC : (List.replicate 256 [Value.int .u8 0]).flatten = zeroRow.map (Value.int .u8) := by
  unfold zeroRow; rw [List.map_replicate, flat_one]
/-- One more row of zeros. -/
theorem newHalf {ko kr j b o : Nat} {s : Sl} {G : Sl → World → Prop} (hcell : Cell w ⟨b, o, none⟩ s.v) (hb : T b = some (0, 0)) (hko : 0 ≠ ko) (hk : ko ≠ kr) (rows : Rows w.heap T ko kr s (List.replicate j zeroRow)) (old : ∀ b, T b ≠ none → b < w.heap.size) (hj : j ≤ 4096)
    (k : ∀ T' s' w', Rows w'.heap T' ko kr s' (List.replicate (j + 1) zeroRow) → (∀ b t, T b = some t → T' b = some t) → (∀ b, T' b ≠ none → T b ≠ none ∨ (w.heap.size ≤ b ∧ b < w'.heap.size)) → Ext (fun b => T b = some (ko, 0)) w w' → G s' w') :
    ∃ S : World → Prop, S (drewW w) ∧ ∃ vv : Sl, Held S ⟨b, o, none⟩ (.slice vv.a vv.len vv.cap) ∧ MkW (drewW w) 5 [.int .u8 0] 1 256 256 fun s w4 => S w4 ∧ NewW w4 (.cells [.slice s.a s.len s.cap].toArray 23) fun b_1 w5 => S w5 ∧
      AppW Try.prog 49 49 vv (.slice (some (Addr.mk b_1 0 none)) 1 1) (fun s_1 w6 => S w6 ∧ G s_1 w6) w5 := by
  refine ⟨Ext (fun b => T b = some (ko, 0)) w, (Ext.refl _ _).drew, s, Held.but hcell (fun h => tne hb h hko), MkW.mk (by omega) (by omega) (by omega) (by omega) fun b4 w4 n4 => ?_⟩
  rw [show (256 : Int).toNat = 256 from rfl] at n4 ⊢
  have x4 : Ext No w w4 := n4.ext.drew_left
  have a4 : b4 = w.heap.size := n4.at_
  have z4 : w4.heap.size = w.heap.size + 1 := n4.size
  have o4 : OwnB w4.heap 0 ⟨some ⟨b4, 0, none⟩, 256, 256⟩ zeroRow := by
    have := (Own.make n4 (Nat.le_refl _) (by simp [oneC])).mono (Nat.zero_le (drewW w).heap.size) (base' := 0)
    rw [zeroC] at this; exact this
  refine ⟨x4.of_no, fun b5 w5 n5 => ⟨(x4.no n5.ext).of_no, ?_⟩⟩
  have x5 := x4.no n5.ext
  have z5 := n5.size
  have hn : T b4 = none := Classical.byContradiction fun h => by have := old b4 h; omega
  have hT : ∀ b t, T b = some t → (T.add b4 (kr, j)) b = some t := fun b t h => Tg.add_old hn h
  have c5 : Rd w5.heap ⟨some ⟨b5, 0, none⟩, 1, 1⟩ 1 [Value.slice (some ⟨b4, 0, none⟩) 256 256] := (Own.new (sz := 1) (n := 1) n5 rfl (by simp [oneC])).rd
  refine ((rows.no x5).tags hT).app hk (o4.no n5.ext) (fun b h => ?_) (fun b h => ?_) c5 (by rw [List.length_replicate]; omega) fun s6 T6 w6 rows6 t6 t6' x6 => ?_
  · have h' : b4 = b := by simpa [Sl.blk] using h
    rw [← h', List.length_replicate]; exact Tg.add_same _ _ _
  · rcases Tg.add_or h with h | h
    · have := old b h; omega
    · omega
  · have x6' : Ext (fun b => T b = some (ko, 0)) w5 w6 := x6.mono fun i _ h => by
      unfold Tg.add at h; split at h
      · simp only [Option.some.injEq, Prod.mk.injEq] at h; exact absurd h.1.symm hk
      · exact h
    have xw : Ext (fun b => T b = some (ko, 0)) w w6 := x5.of_no.trans x6' fun _ _ h => h
    have z6 := x6.size
    refine ⟨xw, k T6 s6 w6 (by rw [List.replicate_succ' (n := j)]; exact rows6) (fun b t h => t6 _ _ (hT _ _ h)) (fun b h => ?_) xw⟩
    rcases t6' b h with h | h
    · rcases Tg.add_or h with h | h
      · exact .inl h
      · right; omega
    · right; omega
theorem refNew_spec {n : Int} {K : Option Addr → World → Prop} (hn : 8 ≤ n ∧ n ≤ 4096) (k : ∀ T r w', RefR w'.heap T r (newD n.toNat) → (∀ i, T i ≠ none → w.heap.size ≤ i) → Ext No w w' → K r.p w') : C_ref08_New n w K := by
  apply S_ref08_New
  intro b w1 n1
  refine ⟨rfl, _, _, _, n1.get, rfl, by simp, .inr (.inr (Nat.le_refl _)), fun v hv => by simp at hv; rcases hv with rfl | rfl | rfl | rfl | rfl <;> rfl, fun w2 hw2 => ?_⟩
  have hb2 : w2.heap[b]? = some (.cells (diskC ⟨b, ⟨none, 0, 0⟩, ⟨none, 0, 0⟩, ⟨none, 0, 0⟩⟩ 0 0 (-1) false).toArray T_donjonref08_Disk (0, 0)) := hw2.get n1.get
  have a1 := n1.at_
  have z1 := n1.size
  have z2 := hw2.size
  have x2 : Ext No w w2 := n1.ext.trans hw2.ext fun i hi h => by
    have h' : i = b := h
    omega
  have rn : ∀ h T k, Rows h T k (k + 1) ⟨none, 0, 0⟩ (List.replicate 0 zeroRow) := fun h T k => ⟨⟨[], Own.nil _ _ _ _, rfl, fun j h1 => by simp at h1⟩, fun b hb => by simp [Sl.blk] at hb⟩
  refine ⟨fun m i w3 => ∃ (j : Nat) (T : Tg) (sn sf : Sl), i = j ∧ m = n.toNat - j ∧ (j : Int) ≤ n ∧ w3.heap[b]? = some (.cells (diskC ⟨b, sn, sf, ⟨none, 0, 0⟩⟩ 0 0 (-1) false).toArray T_donjonref08_Disk (0, 0)) ∧ T b = some (0, 0) ∧ Rows w3.heap T 1 2 sn (List.replicate j zeroRow) ∧
      Rows w3.heap T 3 4 sf (List.replicate j zeroRow) ∧ (∀ i, T i ≠ none → i < w3.heap.size) ∧ (∀ i, T i ≠ none → w.heap.size ≤ i) ∧ Ext No w w3,
    ⟨_, 0, fun i => if i = b then some (0, 0) else none, ⟨none, 0, 0⟩, ⟨none, 0, 0⟩, rfl, rfl, by omega, hb2, if_pos rfl, rn _ _ 1, rn _ _ 3, fun i h => ?_, fun i h => ?_, x2⟩, ?_⟩
  · by_cases e : i = b
    · omega
    · simp [e] at h
  · by_cases e : i = b
    · omega
    · simp [e] at h
  rintro _ m i w3 ⟨j, T, sn, sf, rfl, rfl, hj, hb3, ht, rn3, rf3, old3, new3, x3⟩
  refine If.dec (fun hlt => ?_) (fun hge => ?_)
  · refine newHalf (Cell.lst hb3 rfl) ht (by decide) (by decide) rn3 old3 (by omega) fun T4 s4 w4 rows4 t4 t4' x4 => ?_
    have z4 := x4.size
    have hb4 : w4.heap[b]? = some (.cells (diskC ⟨b, sn, sf, ⟨none, 0, 0⟩⟩ 0 0 (-1) false).toArray T_donjonref08_Disk (0, 0)) := by rw [x4.blk _ (blt hb3) (fun h => tne ht h (by decide))]; exact hb3
    have rf4 := (rf3.ext x4 (fun b h h' => tne h h' (by decide)) fun b j h h' => tne h h' (by simp)).tags t4
    refine St1.mk hb4 (by simp) rfl fun w5 hw5 => ?_
    have hb5 : w5.heap[b]? = some (.cells (diskC ⟨b, s4, sf, ⟨none, 0, 0⟩⟩ 0 0 (-1) false).toArray T_donjonref08_Disk (0, 0)) := hw5.get hb4
    have nb : ∀ {T : Tg}, T b = some (0, 0) → ∀ i t, T i = some t → t.1 ≠ 0 → ¬ i = b := fun hT i t h hn e => by subst e; exact tne h hT hn
    have ht4 := t4 _ _ ht
    have rows5 := rows4.ext hw5.ext (fun i h => nb ht4 i _ h (by decide)) fun i j h => nb ht4 i _ h (by simp)
    have rf5 := rf4.ext hw5.ext (fun i h => nb ht4 i _ h (by decide)) fun i j h => nb ht4 i _ h (by simp)
    have z5 := hw5.size
    have old5 : ∀ i, T4 i ≠ none → i < w5.heap.size := fun i h => by
      rcases t4' i h with h | h
      · have := old3 i h; omega
      · omega
    refine newHalf (Cell.lst hb5 rfl) ht4 (by decide) (by decide) rf5 old5 (by omega) fun T6 s6 w6 rows6 t6 t6' x6 => ?_
    have z6 := x6.size
    have hb6 : w6.heap[b]? = some (.cells (diskC ⟨b, s4, sf, ⟨none, 0, 0⟩⟩ 0 0 (-1) false).toArray T_donjonref08_Disk (0, 0)) := by rw [x6.blk _ (blt hb5) (fun h => tne ht4 h (by decide))]; exact hb5
    have rn6 := (rows5.ext x6 (fun b h h' => tne h h' (by decide)) fun b j h h' => tne h h' (by simp)).tags t6
    refine St1.mk hb6 (by simp) rfl fun w7 hw7 => Ar.i64 (by omega) ⟨_, ?_, j + 1, T6, s4, s6, by omega, rfl, by omega, hw7.get hb6, t6 _ _ ht4, ?_, ?_, fun i h => ?_, fun i h => ?_, ?_⟩
    · omega
    · exact rn6.ext hw7.ext (fun i h => nb (t6 _ _ ht4) i _ h (by decide)) fun i j h => nb (t6 _ _ ht4) i _ h (by simp)
    · exact rows6.ext hw7.ext (fun i h => nb (t6 _ _ ht4) i _ h (by decide)) fun i j h => nb (t6 _ _ ht4) i _ h (by simp)
    · rw [hw7.size]
      rcases t6' i h with h | h
      · have := old5 i h; omega
      · omega
    · have z3 := x3.size
      rcases t6' i h with h | h
      · rcases t4' i h with h | h
        · exact new3 i h
        · omega
      · omega
    · have hbn := new3 b (by rw [ht]; simp)
      refine (((x3.trans x4 fun i hi h => ?_).trans hw5.ext fun i hi h => ?_).trans x6 fun i hi h => ?_).trans hw7.ext fun i hi h => ?_
      · have := new3 i (by rw [h]; simp); omega
      · have h' : i = b := h
        omega
      · have z3 := x3.size
        rcases t4' i (by rw [h]; simp) with h | h
        · have := new3 i h; omega
        · omega
      · have h' : i = b := h
        omega
  · have e : n.toNat = j := by omega
    rw [← e] at rn3 rf3
    exact k T ⟨b, sn, sf, ⟨none, 0, 0⟩⟩ w3 ⟨hb3, ht, rn3, rf3, WRows.nil _ _, old3, newD_wf (by omega)⟩ new3 x3
theorem refSync_spec {K : Int → World → Prop} (q : RefR w.heap T r D) (hs : 0 ≤ D.steps ∧ D.steps < 18446744073709551615)
    (k : ∀ T' r' w', RefR w'.heap T' r' (syncR D).2 → GrowT w T T' r r' → Ext (fun b => T b ≠ none) w w' → K (syncR D).1 w') : C_ref08_Disk_Sync r.p w K := by
  apply S_ref08_Disk_Sync
  refine refStep_spec q hs fun w1 q1 x1 z1 => ?_
  have xt1 := q.ext0 x1
  have hsm := step_same D
  refine If.bne (fun he => ?_) (fun he => ?_)
  · have e : syncR D = stepD D := by unfold syncR; rw [if_neg he]
    rw [e] at k; exact k T r w1 q1 (GrowT.refl _ _ _) xt1
  have e : syncR D = (0, syncD (stepD D).2) := by unfold syncR; rw [if_pos he]
  rw [e] at k
  generalize (stepD D).2 = D1 at *
  have hn := q1.wf.n
  have hhi := q1.wf.hi
  have wfj : ∀ j : Nat, WF { D1 with firm := D1.now.take j ++ D1.firm.drop j } := fun j => ⟨by simp; omega, q1.wf.lo, q1.wf.hi, q1.wf.rn, fun x hx => by
    rcases List.mem_append.1 hx with h | h
    · exact q1.wf.rn x (List.mem_of_mem_take h)
    · exact q1.wf.rf x (List.mem_of_mem_drop h), q1.wf.rw, q1.wf.fl, q1.wf.ct⟩
  refine ⟨fun m i w2 => ∃ (j : Nat) (T2 : Tg), i = j ∧ m = D1.now.length - j ∧ j ≤ D1.now.length ∧ RefR w2.heap T2 r { D1 with firm := D1.now.take j ++ D1.firm.drop j } ∧ (∀ b, T2 b ≠ none → T b ≠ none ∨ w.heap.size ≤ b) ∧ Ext (fun b => T b ≠ none) w w2,
    ⟨_, 0, T, rfl, rfl, Nat.zero_le _, q1, fun _ h => .inl h, xt1⟩, ?_⟩
  rintro _ m i w2 ⟨j, T2, rfl, rfl, hj, q2, t2, x2⟩
  have ln := q2.now.len
  simp only at ln
  refine Nn.mk ⟨r.sn, Cell.lst q2.blk rfl, If.dec (fun hlt => ?_) (fun hge => ?_)⟩
  · have hj' : j < D1.now.length := by omega
    refine ⟨Ext (fun b => T2 b = some (3, 0)) w2, (Ext.refl _ _).drew, Nn.mk ⟨r.sf, Held.but (Cell.lst q2.blk rfl) (fun h => tne h q2.hb (by decide)), Nn.mk ⟨r.sn, Held.but (Cell.lst q2.blk rfl) (fun h => tne h q2.hb (by decide)), ?_⟩⟩⟩
    refine copyRow q2.firm q2.now (by decide) (by decide) (by decide) q2.old hj' (by simp; omega) (q1.wf.rn _ (List.getElem_mem _)) fun T3 w3 t3 t3' rows3 x3 => Ar.i64 (by omega) ⟨_, ?_, j + 1, T3, by omega, rfl, by omega, ?_, fun b h => ?_, ?_⟩
    · omega
    · have e2 := set_take_drop (a := D1.now) (b := D1.firm) hj' (by omega)
      simp only at rows3
      rw [e2] at rows3
      have z3 := x3.size
      have old3 : ∀ b, T3 b ≠ none → b < w3.heap.size := fun b h => by
        rcases t3' b h with h | h
        · have := q2.old b h; omega
        · omega
      have hb3 : w3.heap[r.b]? = _ := (x3.blk _ (blt q2.blk) (fun h => tne q2.hb h (by decide))).trans q2.blk
      exact ⟨hb3, t3 _ _ q2.hb, (q2.now.ext x3 (fun b h h' => tne h h' (by decide)) fun b j h h' => tne h h' (by simp)).tags t3, rows3, (q2.waits.ext x3 (fun b h h' => tne h h' (by decide)) fun b h h' => tne h h' (by simp)).tags t3, old3, wfj (j + 1)⟩
    · have := x2.size
      rcases t3' b h with h | h
      · exact t2 b h
      · right; omega
    · refine x2.trans x3 fun b hb h => ?_
      rcases t2 b (by rw [h]; simp) with h | h
      · exact h
      · omega
  · have ej : j = D1.now.length := by omega
    subst ej
    refine Nn.mk (St1.mk q2.blk (by simp) rfl fun w3 hw3 => ?_)
    have q3 := q2.setWaits (WRows.nil _ _) hw3 ⟨(wfj D1.now.length).n, q1.wf.lo, q1.wf.hi, q1.wf.rn, (wfj D1.now.length).rf, fun p hp => by simp at hp, q1.wf.fl, q1.wf.ct⟩
    have ef : D1.now.take D1.now.length ++ D1.firm.drop D1.now.length = D1.now := by rw [List.take_length, List.drop_of_length_le (by omega), List.append_nil]
    rw [ef] at q3
    refine k T2 _ w3 q3 ⟨rfl, t2⟩ (x2.trans hw3.ext fun b hb h => ?_)
    have h' : b = r.b := h
    subst h'; rw [q.hb]; simp
theorem refForeign_spec {i at_ : Int} {b : Sl} {bs : List Int} {K : Int → World → Prop} (q : RefR w.heap T r D) (hb : RdB w.heap b bs) (h8 : B8 bs) (hfp : bs ≠ [] → ∀ i, b.blk = some i → T i = none) (hat : -9223372036854775808 ≤ at_ ∧ at_ ≤ 9223372036854775807)
    (k2 : ¬ (hasB D i = true ∧ 0 ≤ at_ ∧ at_ + bs.length ≤ 256) → K 2 w)
    (k : hasB D i = true ∧ 0 ≤ at_ ∧ at_ + bs.length ≤ 256 → ∀ w', RefR w'.heap T r (foreignD D i at_.toNat bs) → Ext (fun b => T b ≠ none) w w' → K 0 w') : C_ref08_Disk_Foreign r.p i at_ b w K := by
  apply S_ref08_Disk_Foreign
  have hbl := RdB.len hb
  refine ⟨fun w' => w' = w ∧ hasB D i = true ∧ 0 ≤ at_ ∧ at_ + bs.length ≤ 256, ?_, ?_⟩
  · refine refHas_spec q (If.not (If.cases (fun h => If.dec (fun h1 => k2 (by omega)) fun h1 => If.dec (fun h2 => k2 (by omega)) fun h2 => Ar.i64 (by omega) (If.dec (fun h3 => k2 (by omega)) fun h3 => ⟨rfl, h, by omega, by omega⟩)) (fun h => k2 (by rw [h]; simp))))
  rintro _ w0 ⟨rfl, hh, h0, hle⟩
  have hi : 0 ≤ i ∧ i < D.now.length := by simpa [hasB] using hh
  have hn := q.wf.n
  have wfk : ∀ k : Nat, WF (foreignD D i at_.toNat (bs.take k)) := fun k => foreign_wf q.wf hi (h8.take k) (by rw [List.length_take]; omega)
  have rn := q.wf.rn _ (List.getElem_mem (show i.toNat < D.now.length by omega))
  have rf := q.wf.rf _ (List.getElem_mem (show i.toNat < D.firm.length by omega))
  have en := getD_eq (show i.toNat < D.now.length by omega)
  have ef := getD_eq (show i.toNat < D.firm.length by omega)
  refine ⟨fun m c w3 => ∃ j : Nat, c = j ∧ m = bs.length - j ∧ j ≤ bs.length ∧ RefR w3.heap T r (foreignD D i at_.toNat (bs.take j)) ∧ Ext (fun b => T b ≠ none) w0 w3, ⟨_, 0, rfl, rfl, Nat.zero_le _, ?_, Ext.refl _ _⟩, ?_⟩
  · have e : foreignD D i at_.toNat (bs.take 0) = D := by unfold foreignD; rw [List.take_zero, splice_nil, splice_nil, set_getD, set_getD]
    rw [e]; exact q
  rintro _ m c w3 ⟨j, rfl, rfl, hj, q3, x3⟩
  refine If.dec (fun hlt => ?_) (fun hge => ?_)
  · have hj' : j < bs.length := by omega
    have hfp := hfp (by intro e; subst e; simp at hj')
    have hb3 : RdB w3.heap b bs := Rd.ext hb x3 fun a c ha hc h => h (hfp c (by simp [Sl.blk, ha, hc]))
    have ln := q3.now.len
    have lf := q3.firm.len
    have ln' : (foreignD D i at_.toNat (bs.take j)).now.length = D.now.length := by simp [foreignD]
    have lf' : (foreignD D i at_.toNat (bs.take j)).firm.length = D.firm.length := by simp [foreignD]
    refine ⟨Ext (fun b => T b = some (2, i.toNat)) w3, (Ext.refl _ _).drew, Nn.mk ⟨r.sn, Held.but (Cell.lst q3.blk rfl) (fun h => tne h q3.hb (by simp)), q3.now.ix (by decide) hi.1 (by omega) fun b1 o1 v1 hi1 hb1 hc1 ov1 tv1 up1 => ⟨v1, Held.but hc1 (fun h => tne h (q3.now.tag b1 hb1) (by simp)), Ar.i64 (by omega) ?_⟩⟩⟩
    refine Ix.int hb3 (by omega) hlt fun b2 o2 hb2 hc2 => ⟨bs.getD j 0, Held.but (by simpa using hc2) (fun h => by rw [hfp b2 hb2] at h; cases h), ?_⟩
    have e1 : (foreignD D i at_.toNat (bs.take j)).now[i.toNat] = splice D.now[i.toNat] at_.toNat (bs.take j) := by
      simp only [foreignD, en, List.getElem_set_self]
    rw [e1] at ov1
    have l1 := RdB.len ov1.rd
    have hsl : (splice D.now[i.toNat] at_.toNat (bs.take j)).length = 256 := (splice_row rn (h8.take j) (by rw [List.length_take]; omega)).1
    refine St1.own (w := drewW w3) ov1 (by omega) (by omega) rfl fun w4 o4 x4 z4 => ?_
    have eb : bs.getD j 0 = bs[j] := by simp [List.getD, hj']
    have eset : ((splice D.now[i.toNat] at_.toNat (bs.take j)).map (Value.int .u8)).set (at_ + (j : Int)).toNat (.int .u8 (bs.getD j 0)) = (splice D.now[i.toNat] at_.toNat (bs.take (j + 1))).map (Value.int .u8) := by
      rw [← List.map_set, show (at_ + (j : Int)).toNat = at_.toNat + j by omega, eb, splice_set hj' (by rw [rn.1]; omega)]
    rw [eset] at o4
    have x4' : Ext (fun b => v1.blk = some b) w3 w4 := x4.drew_left
    have x4t : Ext (fun b => T b = some (2, i.toNat)) w3 w4 := x4'.mono fun c _ h => tv1 c h
    have rows4 := up1 w4 _ o4 x4'
    have q4 := q3.setNow rows4 (x4t.mono fun c _ h => ⟨_, h, .inr rfl⟩) ⟨by simp [(wfk j).n], by simpa using (wfk j).lo, by simpa using (wfk j).hi, set_rows (wfk j).rn (splice_row rn (h8.take (j + 1)) (by rw [List.length_take]; omega)), (wfk j).rf, by simpa using (wfk j).rw, (wfk j).fl, (wfk j).ct⟩
    have hb4 : RdB w4.heap b bs := Rd.ext hb3 x4t fun a c ha hc h => by rw [hfp c (by simp [Sl.blk, ha, hc])] at h; cases h
    refine ⟨x4t, Ext (fun b => T b = some (4, i.toNat)) w4, (Ext.refl _ _).drew, Nn.mk ⟨r.sf, Held.but (Cell.lst q4.blk rfl) (fun h => tne h q4.hb (by simp)), q4.firm.ix (by decide) hi.1 (by omega) fun b5 o5 v5 hi5 hb5 hc5 ov5 tv5 up5 => ⟨v5, Held.but hc5 (fun h => tne h (q4.firm.tag b5 hb5) (by simp)), Ar.i64 (by omega) ?_⟩⟩⟩
    refine Ix.int hb4 (by omega) hlt fun b6 o6 hb6 hc6 => ⟨bs.getD j 0, Held.but (by simpa using hc6) (fun h => by rw [hfp b6 hb6] at h; cases h), ?_⟩
    have e5 : ({ foreignD D i at_.toNat (bs.take j) with now := (foreignD D i at_.toNat (bs.take j)).now.set i.toNat (splice D.now[i.toNat] at_.toNat (bs.take (j + 1))) } : DS).firm[i.toNat] = splice D.firm[i.toNat] at_.toNat (bs.take j) := by
      simp only [foreignD, ef, List.getElem_set_self]
    rw [e5] at ov5
    have l5 := RdB.len ov5.rd
    have hsl5 : (splice D.firm[i.toNat] at_.toNat (bs.take j)).length = 256 := (splice_row rf (h8.take j) (by rw [List.length_take]; omega)).1
    refine St1.own (w := drewW w4) ov5 (by omega) (by omega) rfl fun w7 o7 x7 z7 => ?_
    have eset5 : ((splice D.firm[i.toNat] at_.toNat (bs.take j)).map (Value.int .u8)).set (at_ + (j : Int)).toNat (.int .u8 (bs.getD j 0)) = (splice D.firm[i.toNat] at_.toNat (bs.take (j + 1))).map (Value.int .u8) := by
      rw [← List.map_set, show (at_ + (j : Int)).toNat = at_.toNat + j by omega, eb, splice_set hj' (by rw [rf.1]; omega)]
    rw [eset5] at o7
    have x7' : Ext (fun b => v5.blk = some b) w4 w7 := x7.drew_left
    have x7t : Ext (fun b => T b = some (4, i.toNat)) w4 w7 := x7'.mono fun c _ h => tv5 c h
    have rows7 := up5 w7 _ o7 x7'
    have ed : ({ foreignD D i at_.toNat (bs.take j) with now := (foreignD D i at_.toNat (bs.take j)).now.set i.toNat (splice D.now[i.toNat] at_.toNat (bs.take (j + 1))), firm := (foreignD D i at_.toNat (bs.take j)).firm.set i.toNat (splice D.firm[i.toNat] at_.toNat (bs.take (j + 1))) } : DS) = foreignD D i at_.toNat (bs.take (j + 1)) := by
      simp only [foreignD, en, ef, List.set_set]
    have q7 := q4.setFirm rows7 (x7t.mono fun c _ h => ⟨_, h, .inr rfl⟩) (by rw [ed]; exact wfk (j + 1))
    rw [ed] at q7
    refine ⟨x7t, Ar.i64 (by omega) ⟨_, ?_, j + 1, by omega, rfl, by omega, q7, ?_⟩⟩
    · omega
    · exact (x3.trans x4t fun c _ h => by rw [h]; simp).trans x7t fun c _ h => by rw [h]; simp
  · have ej : j = bs.length := by omega
    rw [ej, List.take_length] at q3
    exact k ⟨hh, h0, hle⟩ w3 q3 x3
end
end Go.Proofs.Ytdgebnphgfbegaa
