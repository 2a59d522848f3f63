/- Layer 8: the document's device in memory: blocks carry tags, which keep them apart; New, Has, Step, Read. -/
import Derived.Test.YtdgebnphgfbegaaRegsD
namespace Go.Proofs.Ytdgebnphgfbegaa
open Go.V Go.V.Dk
/-- What a block is for. -/
abbrev Tg := Nat → Option (Nat × Nat)
def Tg.add (T : Tg) (b : Nat) (t : Nat × Nat) : Tg := fun i => if i = b then some t else T i
theorem Tg.add_same (T : Tg) (b : Nat) (t : Nat × Nat) : T.add b t b = some t := if_pos rfl
theorem Tg.add_old {T : Tg} {b : Nat} {t u : Nat × Nat} {i : Nat} (hb : T b = none) (h : T i = some u) : T.add b t i = some u := by
  unfold Tg.add; split
  · rename_i e; subst e; rw [hb] at h; cases h
  · exact h
theorem Tg.add_or {T : Tg} {b : Nat} {t : Nat × Nat} {i : Nat} (h : T.add b t i ≠ none) : T i ≠ none ∨ i = b := by
  unfold Tg.add at h; split at h
  · exact .inr ‹_›
  · exact .inl h
/-- A slice of slices of bytes, all of them owned. -/
structure Rows (h : Array Obj) (T : Tg) (ko kr : Nat) (s : Sl) (L : List (List Int)) : Prop where
  ex : ∃ ins : List Sl, Own h 0 T_sl_uint8 1 s (ins.flatMap slC) ∧ ins.length = L.length ∧ ∀ j (h1 : j < ins.length) (h2 : j < L.length), OwnB h 0 ins[j] L[j] ∧ ∀ b, ins[j].blk = some b → T b = some (kr, j)
  tag : ∀ b, s.blk = some b → T b = some (ko, 0)
section
variable {w w' : World} {T T' : Tg} {ko kr : Nat} {s : Sl} {L : List (List Int)}
theorem Rows.len {h : Array Obj} (r : Rows h T ko kr s L) : s.len = L.length := by
  obtain ⟨ins, h1, h2, _⟩ := r.ex
  have := h1.len; rw [flat_len' slC_len] at this; omega
theorem Rows.ext {S : Nat → Prop} (r : Rows w.heap T ko kr s L) (x : Ext S w w') (h1 : ∀ b, T b = some (ko, 0) → ¬ S b) (h2 : ∀ b j, T b = some (kr, j) → ¬ S b) : Rows w'.heap T ko kr s L := by
  obtain ⟨ins, a, b, c⟩ := r.ex
  exact ⟨⟨ins, a.ext x fun b hb => h1 b (r.tag b hb), b, fun j p q => ⟨(c j p q).1.ext x fun b hb => h2 b j ((c j p q).2 b hb), (c j p q).2⟩⟩, r.tag⟩
theorem Rows.no (r : Rows w.heap T ko kr s L) (x : Ext No w w') : Rows w'.heap T ko kr s L := r.ext x (fun _ _ h => h) fun _ _ _ h => h
theorem Rows.tags {h : Array Obj} (r : Rows h T ko kr s L) (hT : ∀ b t, T b = some t → T' b = some t) : Rows h T' ko kr s L := by
  obtain ⟨ins, a, b, c⟩ := r.ex
  exact ⟨⟨ins, a, b, fun j p q => ⟨(c j p q).1, fun b hb => hT _ _ ((c j p q).2 b hb)⟩⟩, fun b hb => hT _ _ (r.tag b hb)⟩
/-- An inner slice; and what it is to write into it. -/
theorem Rows.ix {i : Int} {K : Addr → Prop} (r : Rows w.heap T ko kr s L) (hk : ko ≠ kr) (h0 : 0 ≤ i) (h1 : i < (s.len : Int))
    (k : ∀ b o v (hi : i.toNat < L.length), s.blk = some b → Cell w ⟨b, o, none⟩ (Sl.v v) → OwnB w.heap 0 v L[i.toNat] → (∀ b, v.blk = some b → T b = some (kr, i.toNat)) →
      (∀ w' l', OwnB w'.heap 0 v l' → Ext (fun b => v.blk = some b) w w' → Rows w'.heap T ko kr s (L.set i.toNat l')) → K ⟨b, o, none⟩) : Ix s.a s.len i 1 K := by
  obtain ⟨ins, a, n, c⟩ := r.ex
  refine Ix.elem a.rd slC_len (by decide) h0 h1 fun b o hi hb hc => k b o ins[i.toNat] (by omega) hb (by have := hc 0 (ins[i.toNat]).v (by simp [slC]); simpa using this) (c _ hi (by omega)).1 (c _ hi (by omega)).2 fun w' l' o' x => ?_
  have tg := (c _ hi (by omega)).2
  refine ⟨⟨ins, a.ext x fun b hb h => ?_, by simp [n], fun j p q => ?_⟩, r.tag⟩
  · have e1 := r.tag b hb
    rw [tg b h] at e1
    exact hk (by simpa using (congrArg (fun o => o.map Prod.fst) e1).symm)
  · simp only [List.length_set] at q
    refine ⟨?_, (c j p q).2⟩
    by_cases e : i.toNat = j
    · subst e
      have e2 : (L.set i.toNat l')[i.toNat]'(by simpa using q) = l' := by simp
      rw [e2]; exact o'
    · have e2 : (L.set i.toNat l')[j]'(by simpa using q) = L[j] := by simp [e]
      rw [e2]
      refine (c j p q).1.ext x fun b hb h => ?_
      have e1 := (c j p q).2 b hb
      rw [tg b h] at e1
      exact e (by simpa using e1)
/-- Another inner slice is put there. -/
theorem Rows.put {i : Int} {v : Sl} {l : List Int} {K : World → Prop} (r : Rows w.heap T ko kr s L) (hk : ko ≠ kr) (o : OwnB w.heap 0 v l) (hv : ∀ b, v.blk = some b → T b = some (kr, i.toNat)) (h0 : 0 ≤ i) (h1 : i < (s.len : Int))
    (k : ∀ w', Rows w'.heap T ko kr s (L.set i.toNat l) → Ext (fun b => T b = some (ko, 0)) w w' → w'.heap.size = w.heap.size → K w') : Ix s.a s.len i 1 fun a => St1 w a v.v K := by
  obtain ⟨ins, a, n, c⟩ := r.ex
  refine St1.own a h0 h1 rfl fun w' a' x z => k w' ⟨⟨ins.set i.toNat v, ?_, by simp [n], fun j p q => ?_⟩, r.tag⟩ (x.mono fun b _ hb => r.tag b hb) z
  · have e : (ins.flatMap slC).set i.toNat v.v = (ins.set i.toNat v).flatMap slC := by
      have : ∀ l : List Sl, l.flatMap slC = l.map Sl.v := fun l => by induction l with
        | nil => rfl
        | cons y l ih => rw [List.flatMap_cons, ih]; rfl
      rw [this, this, List.map_set]
    rw [e] at a'; exact a'
  · simp only [List.length_set] at p q
    have ne : ∀ b t, s.blk = some b → T b = some (kr, t) → False := fun b t hb h => by
      rw [r.tag b hb] at h
      exact hk (by simpa using (congrArg (fun o => o.map Prod.fst) h))
    by_cases e : i.toNat = j
    · subst e
      have e1 : (ins.set i.toNat v)[i.toNat]'(by simpa using p) = v := by simp
      have e2 : (L.set i.toNat l)[i.toNat]'(by simpa using q) = l := by simp
      rw [e1, e2]
      exact ⟨o.ext x fun b hb h => ne b _ h (hv b hb), hv⟩
    · have e1 : (ins.set i.toNat v)[j]'(by simpa using p) = ins[j] := by simp [e]
      have e2 : (L.set i.toNat l)[j]'(by simpa using q) = L[j] := by simp [e]
      rw [e1, e2]
      exact ⟨(c j p q).1.ext x fun b hb h => ne b _ h ((c j p q).2 b hb), (c j p q).2⟩
/-- One more inner slice. -/
theorem Rows.push {h : Array Obj} {s' v : Sl} {l : List Int} (r : Rows h T ko kr s L) (o' : ∀ ins : List Sl, Own h 0 T_sl_uint8 1 s (ins.flatMap slC) → Own w'.heap 0 T_sl_uint8 1 s' ((ins ++ [v]).flatMap slC))
    (hs : ∀ b, s'.blk = some b → T b = some (ko, 0)) (o : OwnB w'.heap 0 v l) (hv : ∀ b, v.blk = some b → T b = some (kr, L.length)) (hr : ∀ (x : Sl) (m : List Int) j, OwnB h 0 x m → (∀ b, x.blk = some b → T b = some (kr, j)) → OwnB w'.heap 0 x m) : Rows w'.heap T ko kr s' (L ++ [l]) := by
  obtain ⟨ins, a, n, c⟩ := r.ex
  refine ⟨⟨ins ++ [v], o' ins a, by simp [n], fun j p q => ?_⟩, hs⟩
  by_cases e : j < L.length
  · rw [List.getElem_append_left (by omega), List.getElem_append_left e]
    exact ⟨hr _ _ _ (c j (by omega) e).1 (c j (by omega) e).2, (c j (by omega) e).2⟩
  · have ej : j = L.length := by simp at q; omega
    subst ej
    rw [List.getElem_append_right (by omega), List.getElem_append_right (by omega)]
    simp only [n, Nat.sub_self, List.getElem_cons_zero]
    exact ⟨o, hv⟩
end
abbrev wC (p : Int × Sl) : List Value := [.int .i64 p.1, p.2.v]
theorem wC_len {l : List (Int × Sl)} : ∀ s ∈ l, (wC s).length = 2 := fun _ _ => rfl
/-- The writes that wait. -/
structure WRows (h : Array Obj) (T : Tg) (s : Sl) (W : List (Int × List Int)) : Prop where
  ex : ∃ ins : List (Int × Sl), Own h 0 T_donjonref08_Wait 2 s (ins.flatMap wC) ∧ ins.length = W.length ∧ ∀ j (h1 : j < ins.length) (h2 : j < W.length), ins[j].1 = W[j].1 ∧ RdB h ins[j].2 W[j].2 ∧ ∀ b, ins[j].2.blk = some b → T b = some (6, 0)
  tag : ∀ b, s.blk = some b → T b = some (5, 0)
section
variable {w w' : World} {T T' : Tg} {s : Sl} {W : List (Int × List Int)}
theorem WRows.len {h : Array Obj} (r : WRows h T s W) : s.len = W.length := by
  obtain ⟨ins, h1, h2, _⟩ := r.ex
  have := h1.len; rw [flat_len' wC_len] at this; omega
theorem WRows.ext {S : Nat → Prop} (r : WRows w.heap T s W) (x : Ext S w w') (h1 : ∀ b, T b = some (5, 0) → ¬ S b) (h2 : ∀ b, T b = some (6, 0) → ¬ S b) : WRows w'.heap T s W := by
  obtain ⟨ins, a, b, c⟩ := r.ex
  exact ⟨⟨ins, a.ext x fun b hb => h1 b (r.tag b hb), b, fun j p q => ⟨(c j p q).1, (c j p q).2.1.ext x fun a b ha hb => h2 b ((c j p q).2.2 b (by simp [Sl.blk, ha, hb])), (c j p q).2.2⟩⟩, r.tag⟩
theorem WRows.no (r : WRows w.heap T s W) (x : Ext No w w') : WRows w'.heap T s W := r.ext x (fun _ _ h => h) fun _ _ h => h
theorem WRows.tags {h : Array Obj} (r : WRows h T s W) (hT : ∀ b t, T b = some t → T' b = some t) : WRows h T' s W := by
  obtain ⟨ins, a, b, c⟩ := r.ex
  exact ⟨⟨ins, a, b, fun j p q => ⟨(c j p q).1, (c j p q).2.1, fun b hb => hT _ _ ((c j p q).2.2 b hb)⟩⟩, fun b hb => hT _ _ (r.tag b hb)⟩
theorem WRows.nil (h : Array Obj) (T : Tg) : WRows h T ⟨none, 0, 0⟩ [] := ⟨⟨[], Own.nil _ _ _ _, rfl, fun j h1 => by simp at h1⟩, fun b hb => by simp [Sl.blk] at hb⟩
theorem WRows.ix {i : Int} {K : Addr → Prop} (r : WRows w.heap T s W) (h0 : 0 ≤ i) (h1 : i < (s.len : Int))
    (k : ∀ b o v (hi : i.toNat < W.length), s.blk = some b → Cell w ⟨b, o, none⟩ (.int .i64 W[i.toNat].1) → Cell w ⟨b, o + 1, none⟩ (Sl.v v) → RdB w.heap v W[i.toNat].2 → (∀ b, v.blk = some b → T b = some (6, 0)) → K ⟨b, o, none⟩) : Ix s.a s.len i 2 K := by
  obtain ⟨ins, a, n, c⟩ := r.ex
  refine Ix.elem a.rd wC_len (by decide) h0 h1 fun b o hi hb hc => ?_
  obtain ⟨c1, c2, c3⟩ := c _ hi (by omega)
  refine k b o ins[i.toNat].2 (by omega) hb ?_ (hc 1 _ (by simp [wC])) c2 c3
  rw [← c1]; exact hc 0 _ (by simp [wC])
end
structure RefR (h : Array Obj) (T : Tg) (r : Dev) (D : DS) : Prop where
  blk : h[r.b]? = some (.cells (diskC r D.steps D.fail D.cut D.down).toArray T_donjonref08_Disk (0, 0))
  hb : T r.b = some (0, 0)
  now : Rows h T 1 2 r.sn D.now
  firm : Rows h T 3 4 r.sf D.firm
  waits : WRows h T r.sw D.waits
  old : ∀ b, T b ≠ none → b < h.size
  wf : WF D
/-- The document's device behind a call. -/
structure GrowT (w : World) (T T' : Tg) (r r' : Dev) : Prop where
  b : r'.b = r.b
  t : ∀ i, T' i ≠ none → T i ≠ none ∨ w.heap.size ≤ i
theorem GrowT.refl (w : World) (T : Tg) (r : Dev) : GrowT w T T r r := ⟨rfl, fun _ h => .inl h⟩
section
variable {w w' : World} {T : Tg} {r : Dev} {D : DS}
theorem tne {T : Tg} {b : Nat} {t u : Nat × Nat} (h : T b = some t) (h' : T b = some u) (hne : t.1 ≠ u.1) : False := by
  rw [h] at h'; cases h'; exact hne rfl
theorem RefR.ext {S : Nat → Prop} (q : RefR w.heap T r D) (x : Ext S w w') (hS : ∀ i, T i ≠ none → ¬ S i) : RefR w'.heap T r D := by
  have hs : ∀ b t, T b = some t → ¬ S b := fun b t h => hS b (by rw [h]; simp)
  exact ⟨by rw [x.blk _ (blt q.blk) (hs _ _ q.hb)]; exact q.blk, q.hb, q.now.ext x (fun b h => hs b _ h) fun b j h => hs b _ h, q.firm.ext x (fun b h => hs b _ h) fun b j h => hs b _ h, q.waits.ext x (fun b h => hs b _ h) fun b h => hs b _ h, fun b h => Nat.lt_of_lt_of_le (q.old b h) x.size, q.wf⟩
theorem RefR.no (q : RefR w.heap T r D) (x : Ext No w w') : RefR w'.heap T r D := q.ext x fun _ _ h => h
/-- The single cells are written. -/
theorem RefR.scal {st fl ct : Int} {dn : Bool} (q : RefR w.heap T r D) (hw : Wrt w r.b (.cells (diskC r st fl ct dn).toArray T_donjonref08_Disk (0, 0)) w') (wf : WF { D with steps := st, fail := fl, cut := ct, down := dn }) :
    RefR w'.heap T r { D with steps := st, fail := fl, cut := ct, down := dn } := by
  have ne : ∀ b t, T b = some t → t.1 ≠ 0 → ¬ b = r.b := fun b t h hn e => by subst e; exact tne h q.hb hn
  exact ⟨hw.get q.blk, q.hb, q.now.ext hw.ext (fun b h => ne b _ h (by decide)) fun b j h => ne b _ h (by simp), q.firm.ext hw.ext (fun b h => ne b _ h (by decide)) fun b j h => ne b _ h (by simp), q.waits.ext hw.ext (fun b h => ne b _ h (by decide)) fun b h => ne b _ h (by decide),
    fun b h => by rw [hw.size]; exact q.old b h, wf⟩
theorem RefR.downEq {b : Bool} (q : RefR w.heap T r D) (h : D.down = b) : RefR w.heap T r { D with down := b } := by subst h; exact q
theorem RefR.ext0 (q : RefR w.heap T r D) (x : Ext (· = r.b) w w') : Ext (fun b => T b ≠ none) w w' := x.mono fun i _ h => by
  have h' : i = r.b := h
  subst h'; rw [q.hb]; simp
theorem refHas_spec {i : Int} {K : Bool → World → Prop} (q : RefR w.heap T r D) (k : K (hasB D i) w) : C_ref08_Disk_Has r.p i w K := by
  apply S_ref08_Disk_Has
  have hl := q.now.len
  refine If.dec (fun h => Nn.mk ⟨r.sn, Cell.lst q.blk rfl, ?_⟩) (fun h => ?_)
  · have : decide (i < ((r.sn.len : Int))) = hasB D i := by unfold hasB; rw [hl]; simp; omega
    rw [this]; exact k
  · have : hasB D i = false := by unfold hasB; simp; omega
    rw [this] at k; exact k
theorem refStep_spec {K : Int → World → Prop} (q : RefR w.heap T r D) (hs : 0 ≤ D.steps ∧ D.steps < 18446744073709551615) (k : ∀ w', RefR w'.heap T r (stepD D).2 → Ext (· = r.b) w w' → w'.heap.size = w.heap.size → K (stepD D).1 w') : C_ref08_Disk_Step r.p w K := by
  apply S_ref08_Disk_Step
  have hf := q.wf.fl
  have hc := q.wf.ct
  refine ⟨fun w2 => RefR w2.heap T r { D with steps := D.steps, fail := D.fail, cut := D.cut, down := D.down || decide (D.cut = 0) } ∧ Ext (· = r.b) w w2 ∧ w2.heap.size = w.heap.size, ?_, ?_⟩
  · refine Nn.mk ⟨_, Cell.lst q.blk rfl, If.beq (fun h0 => Nn.mk (St1.mk q.blk (by simp) rfl fun w1 hw => ⟨?_, hw.ext, hw.size⟩)) (fun h0 => ?_)⟩
    · have e : (D.down || decide (D.cut = 0)) = true := by simp [h0]
      rw [e]; exact q.scal hw ⟨q.wf.n, q.wf.lo, q.wf.hi, q.wf.rn, q.wf.rf, q.wf.rw, q.wf.fl, q.wf.ct⟩
    · have e : (D.down || decide (D.cut = 0)) = D.down := by simp [h0]
      rw [e]; exact ⟨q, Ext.refl _ _, rfl⟩
  · rintro _ w2 ⟨q2, x2, z2⟩
    refine Nn.mk ⟨_, Cell.lst q2.blk rfl, If.cases (fun hd => ?_) (fun hd => ?_)⟩
    · have hd' : D.down = true ∨ D.cut = 0 := by simpa using hd
      have e : stepD D = (81, { D with down := true }) := by unfold stepD; rw [if_pos hd']
      rw [e] at k
      refine k w2 ?_ x2 z2
      exact q2.downEq hd
    · have hd' : ¬ (D.down = true ∨ D.cut = 0) := by simpa using hd
      have hdn : D.down = false := by simp at hd; exact hd.1
      have wf4 : ∀ {st fl : Int}, 0 ≤ fl ∧ fl ≤ 9223372036854775807 → WF { D with steps := st, fail := fl, cut := (if D.cut > 0 then D.cut - 1 else D.cut), down := false } := fun h => ⟨q.wf.n, q.wf.lo, q.wf.hi, q.wf.rn, q.wf.rf, q.wf.rw, h, by simp only; split <;> omega⟩
      refine ⟨fun w4 => RefR w4.heap T r { D with steps := D.steps, fail := D.fail, cut := (if D.cut > 0 then D.cut - 1 else D.cut), down := false } ∧ Ext (· = r.b) w w4 ∧ w4.heap.size = w.heap.size, ?_, ?_⟩
      · have q2 := q2.downEq hd
        refine Nn.mk ⟨_, Cell.lst q2.blk rfl, If.dec (fun h => Nn.mk ⟨_, Cell.lst q2.blk rfl, Ar.i64 (by simp only; omega) (Nn.mk (St1.mk q2.blk (by simp) rfl fun w3 hw => ⟨?_, x2.trans hw.ext fun _ _ h => h, by rw [hw.size, z2]⟩))⟩) (fun h => ⟨?_, x2, z2⟩)⟩
        · simp only at h
          have w0 := wf4 (st := D.steps) hf
          rw [if_pos h] at w0 ⊢
          exact q2.scal hw w0
        · simp only at h
          rw [if_neg h]; exact q2
      · rintro _ w4 ⟨q4, x4, z4⟩
        refine Nn.mk ⟨_, Cell.lst q4.blk rfl, Ar.u64 (by simp only; omega) (Nn.mk (St1.mk q4.blk (by simp) rfl fun w5 hw5 => ?_))⟩
        have q5 : RefR w5.heap T r { D with steps := D.steps + 1, fail := D.fail, cut := (if D.cut > 0 then D.cut - 1 else D.cut), down := false } := q4.scal hw5 (wf4 hf)
        have x5 := x4.trans hw5.ext (S := (· = r.b)) fun _ _ h => h
        have z5 : w5.heap.size = w.heap.size := by rw [hw5.size, z4]
        refine Nn.mk ⟨_, Cell.lst q5.blk rfl, If.beq (fun h => ?_) (fun h => Nn.mk ⟨_, Cell.lst q5.blk rfl, Ar.i64 (by simp only; omega) (Nn.mk (St1.mk q5.blk (by simp) rfl fun w6 hw6 => ?_))⟩)⟩
        · simp only at h
          have e : stepD D = (0, { D with steps := D.steps + 1, fail := D.fail, cut := (if D.cut > 0 then D.cut - 1 else D.cut), down := false }) := by
            unfold stepD; rw [if_neg hd', if_neg (by omega), hdn]
          rw [e] at k
          exact k w5 q5 x5 z5
        · simp only at h
          have q6 : RefR w6.heap T r { D with steps := D.steps + 1, fail := D.fail - 1, cut := (if D.cut > 0 then D.cut - 1 else D.cut), down := false } := q5.scal hw6 (wf4 (by omega))
          have x6 := x5.trans hw6.ext (S := (· = r.b)) fun _ _ h => h
          have e : stepD D = (if D.fail = 1 then 80 else 0, { D with steps := D.steps + 1, fail := D.fail - 1, cut := (if D.cut > 0 then D.cut - 1 else D.cut), down := false }) := by
            unfold stepD; rw [if_neg hd', if_pos (by omega), hdn]
          rw [e] at k
          refine Nn.mk ⟨_, Cell.lst q6.blk rfl, If.beq (fun h1 => ?_) (fun h1 => ?_)⟩
          · simp only at h1
            rw [if_pos (by omega)] at k
            exact k w6 q6 x6 (by rw [hw6.size, z5])
          · simp only at h1
            rw [if_neg (by omega)] at k
            exact k w6 q6 x6 (by rw [hw6.size, z5])
theorem copy_spec {b : Sl} {K : Sl → World → Prop} {l : List Int} (hb : RdB w.heap b l) (hl : l.length ≤ 140737488355328)
    (k : ∀ s w', OwnB w'.heap w.heap.size s l → Ext No w w' → K s w') : C_ref01_Copy b w K := by
  apply S_ref01_Copy
  have hlb := RdB.len hb
  refine Ar.i64 (by omega) (MkW.mk (by omega) (by omega) (by omega) (by omega) fun i w1 new => ?_)
  have e1 : ((b.len : Int) + 3).toNat = b.len + 3 := by omega
  simp only [e1, Int.toNat_natCast] at new ⊢
  have hx := (hb.no new.ext)
  refine copy_uint8 rfl new.get hx (by simp) fun w2 hw => ?_
  refine k _ w2 ?_ (new.ext.trans hw.ext fun j hj e => by subst e; have := new.at_; omega)
  simp only [Nat.min_self, Nat.mul_one] at hw
  have ht : (l.map (Value.int .u8)).take b.len = l.map (Value.int .u8) := List.take_of_length_le (by simp; omega)
  rw [ht] at hw
  refine ⟨by simpa using hlb.symm, .inr ⟨i, List.replicate 3 (.int .u8 0), rfl, by rw [new.at_]; exact Nat.le_refl _, ?_, by simp; omega, by simp⟩, oneC_ints⟩
  rw [hw.get new.get, setL_eq _ _ _ (by simp; omega)]
  congr 2
  simp only [List.take_zero, List.nil_append, Nat.zero_add, List.length_map, ← hlb]
  congr 1
  have : (List.replicate (b.len + 3) [Value.int IntKind.u8 0]).flatten = List.replicate (b.len + 3) (Value.int IntKind.u8 0) := by
    simp
  rw [this, List.drop_replicate]
  rw [Nat.add_sub_cancel_left]
theorem same_spec {a b : Sl} {K : Bool → World → Prop} {l m : List Int} (ha : RdB w.heap a l) (hb : RdB w.heap b m) (hl : B8 l) (hm : B8 m) (k : K (decide (l = m)) w) : C_ref01_Same a b w K := by
  apply S_ref01_Same
  refine StrC.mk ha (fun b o v h => Cell.mk h) (StrC.mk hb (fun b o v h => Cell.mk h) ?_)
  rw [toList_mk, toList_mk]
  have : (toB l == toB m) = decide (l = m) := by
    rw [Bool.eq_iff_iff]; simp [toB_inj hl hm]
  rw [this]; exact k
theorem refRead_spec {i : Int} {K : Sl → Int → World → Prop} (q : RefR w.heap T r D) (k2 : hasB D i = false → K ⟨none, 0, 0⟩ 2 w) (k81 : hasB D i = true → D.down = true → K ⟨none, 0, 0⟩ 81 w)
    (k0 : hasB D i = true → D.down = false → ∀ s w', OwnB w'.heap w.heap.size s (D.now.getD i.toNat []) → Ext No w w' → K s 0 w') : C_ref08_Disk_Read r.p i w K := by
  apply S_ref08_Disk_Read
  refine refHas_spec q (If.not (If.cases (fun h => ?_) (fun h => k2 h)))
  have hi : 0 ≤ i ∧ i < D.now.length := by simpa [hasB] using h
  have hl := q.now.len
  refine Nn.mk ⟨_, Cell.lst q.blk rfl, If.cases (fun hd => k81 h hd) (fun hd => Nn.mk ⟨r.sn, Cell.lst q.blk rfl, q.now.ix (by decide) hi.1 (by omega) fun b o v hi' hb hc ov _ _ => ⟨v, hc, ?_⟩⟩)⟩
  have hr := q.wf.rn _ (List.getElem_mem hi')
  have e : D.now.getD i.toNat [] = D.now[i.toNat] := by simp [List.getD, hi']
  rw [e] at k0
  exact copy_spec ov.rd (by rw [hr.1]; decide) fun s w' o x => k0 h hd s w' o x
end
end Go.Proofs.Ytdgebnphgfbegaa
