/- Memory: rows of elements, each of some cells; writing into parts of one's own slices. -/
import Derived.Test.YtdgebnphgfbegaaHeapB
namespace Go.V
section
variable {α : Type} {f : α → List Value} {n : Nat}
theorem flat_len' : ∀ {l : List α}, (∀ x ∈ l, (f x).length = n) → (l.flatMap f).length = l.length * n
  | [], _ => by simp
  | x :: l, h => by
    rw [List.flatMap_cons, List.length_append, h x List.mem_cons_self, flat_len' fun y hy => h y (List.mem_cons_of_mem _ hy), List.length_cons, Nat.add_mul]; omega
theorem flat_get : ∀ {l : List α} {i j : Nat} (_ : ∀ x ∈ l, (f x).length = n) (hi : i < l.length) (_ : j < n), (l.flatMap f)[i * n + j]? = (f l[i])[j]?
  | [], i, j, _, hi, _ => by simp at hi
  | x :: l, 0, j, h, hi, hj => by
    have := h x List.mem_cons_self
    rw [List.flatMap_cons, Nat.zero_mul, Nat.zero_add, List.getElem?_append_left (by omega)]; rfl
  | x :: l, i + 1, j, h, hi, hj => by
    have h1 := h x List.mem_cons_self
    have e : (i + 1) * n + j = (f x).length + (i * n + j) := by rw [h1, Nat.add_mul]; omega
    rw [List.flatMap_cons, e, List.getElem?_append_right (by omega), Nat.add_sub_cancel_left, flat_get (fun y hy => h y (List.mem_cons_of_mem _ hy)) (by simpa using hi) hj]
    rfl
theorem setL_app_left : ∀ (vs a b : List Value) (o : Nat), o + vs.length ≤ a.length → setL (a ++ b) o vs = setL a o vs ++ b
  | [], a, b, o, _ => rfl
  | v :: vs, a, b, o, h => by
    simp only [List.length_cons] at h
    rw [setL, setL, List.set_append_left _ _ (by omega), setL_app_left vs _ _ _ (by simp; omega)]
theorem setL_app_right : ∀ (vs a b : List Value) (o : Nat), setL (a ++ b) (a.length + o) vs = a ++ setL b o vs
  | [], a, b, o => rfl
  | v :: vs, a, b, o => by
    rw [setL, setL, List.set_append_right _ _ (by omega), Nat.add_sub_cancel_left, Nat.add_assoc, setL_app_right vs]
theorem setL_all (vs a : List Value) (h : vs.length = a.length) : setL a 0 vs = vs := by
  rw [setL_parts _ _ _ (by omega)]; simp [h]
/-- A part of one element is written. -/
theorem flat_set : ∀ {l : List α} {i o : Nat} {vs : List Value} {y : α} (_ : ∀ x ∈ l, (f x).length = n) (hi : i < l.length) (_ : o + vs.length ≤ n) (_ : f y = setL (f l[i]) o vs), setL (l.flatMap f) (i * n + o) vs = (l.set i y).flatMap f
  | [], i, o, vs, y, _, hi, _, _ => by simp at hi
  | x :: l, 0, o, vs, y, h, hi, ho, hy => by
    have := h x List.mem_cons_self
    rw [List.flatMap_cons, Nat.zero_mul, Nat.zero_add, setL_app_left _ _ _ _ (by omega), List.set_cons_zero, List.flatMap_cons, hy]; rfl
  | x :: l, i + 1, o, vs, y, h, hi, ho, hy => by
    have h1 := h x List.mem_cons_self
    have e : (i + 1) * n + o = (f x).length + (i * n + o) := by rw [h1, Nat.add_mul]; omega
    rw [List.flatMap_cons, e, setL_app_right, flat_set (fun y hy => h y (List.mem_cons_of_mem _ hy)) (by simpa using hi) ho hy, List.set_cons_succ, List.flatMap_cons]
end
section
variable {w : World} {base : Nat} {e : TypeId} {sz : Nat} {s : Sl} {cs : List Value}
/-- Where one's own slice lies. -/
theorem Own.place {h : Array Obj} (o : Own h base e sz s cs) (hne : cs ≠ []) : ∃ b rest, s.a = some ⟨b, 0, none⟩ ∧ base ≤ b ∧ h[b]? = some (.cells (cs ++ rest).toArray e (0, 0)) ∧ (cs ++ rest).length = s.cap * sz ∧ s.len ≤ s.cap := by
  rcases o.is with ⟨_, rfl⟩ | h
  · exact absurd rfl hne
  · exact h
theorem Own.upd {w' : World} {b off : Nat} {rest vs : List Value} (o : Own w.heap base e sz s cs) (ha : s.a = some ⟨b, 0, none⟩) (hle : base ≤ b) (hb : w.heap[b]? = some (.cells (cs ++ rest).toArray e (0, 0))) (hc : (cs ++ rest).length = s.cap * sz) (hcap : s.len ≤ s.cap)
    (hw : Wrt w b (.cells (setL (cs ++ rest) off vs).toArray e (0, 0)) w') (hv : ∀ v ∈ vs, oneC v = true) (ho : off + vs.length ≤ cs.length) :
    Own w'.heap base e sz s (setL cs off vs) ∧ Ext (fun i => s.blk = some i) w w' ∧ w'.heap.size = w.heap.size := by
  refine ⟨⟨by rw [length_setL]; exact o.len, .inr ⟨b, rest, ha, hle, ?_, ?_, hcap⟩, fun v h => ?_⟩, hw.ext.mono fun i _ hi => by subst hi; simp [Sl.blk, ha], hw.size⟩
  · rw [hw.get hb, setL_app_left _ _ _ _ ho]
  · rw [List.length_append, length_setL, ← List.length_append]; exact hc
  · rw [setL_parts _ _ _ ho] at h
    rcases List.mem_append.1 h with h | h
    · exact o.cells v (List.mem_of_mem_take h)
    · rcases List.mem_append.1 h with h | h
      · exact hv v h
      · exact o.cells v (List.mem_of_mem_drop h)
/-- Cells of one's own slice are written. -/
theorem StN.own {i : Int} {vs : List Value} {K : World → Prop} (o : Own w.heap base e sz s cs) (h0 : 0 ≤ i) (h1 : i < (s.len : Int)) (hv : ∀ v ∈ vs, oneC v = true) (hl : vs.length = sz) (hsz : 0 < sz)
    (k : ∀ w', Own w'.heap base e sz s (setL cs (i.toNat * sz) vs) → Ext (fun i => s.blk = some i) w w' → w'.heap.size = w.heap.size → K w') : Ix s.a s.len i sz fun a => StN w a vs K := by
  have hlen := o.len
  have hle : i.toNat * sz + sz ≤ cs.length := by
    rw [hlen]; have : (i.toNat + 1) * sz ≤ s.len * sz := Nat.mul_le_mul_right _ (by omega)
    rw [Nat.add_mul] at this; omega
  have hne : cs ≠ [] := by intro e; subst e; simp at hle; omega
  obtain ⟨b, rest, ha, hba, hb, hc, hcap⟩ := o.place hne
  refine ⟨_, ha, h0, h1, ?_⟩
  rw [addr_add_none rfl]
  simp only [Nat.zero_add]
  refine ⟨_, _, _, hb, rfl, by show i.toNat * sz + vs.length ≤ _; simp only [List.size_toArray, List.length_append]; omega, .inr (.inr (Nat.le_refl _)), hv, fun w' hw => ?_⟩
  obtain ⟨a1, a2, a3⟩ := o.upd (off := i.toNat * sz) ha hba hb hc hcap hw hv (by omega)
  exact k w' a1 a2 a3
/-- One cell of one's own slice is written. -/
theorem St1.at_ {b off : Nat} {v : Value} {K : World → Prop} (o : Own w.heap base e sz s cs) (ha : s.a = some ⟨b, 0, none⟩) (h1 : off < cs.length) (hv : oneC v = true)
    (k : ∀ w', Own w'.heap base e sz s (cs.set off v) → Ext (fun i => s.blk = some i) w w' → w'.heap.size = w.heap.size → K w') : St1 w ⟨b, off, none⟩ v K := by
  have hne : cs ≠ [] := by intro e; subst e; simp at h1
  obtain ⟨b', rest, ha', hba, hb, hc, hcap⟩ := o.place hne
  rw [ha] at ha'; cases ha'
  refine St1.mk hb (by simp; omega) hv fun w' hw => ?_
  have hw' : Wrt w b (.cells (setL (cs ++ rest) off [v]).toArray e (0, 0)) w' := hw
  obtain ⟨a1, a2, a3⟩ := o.upd ha hba hb hc hcap hw' (by simpa using hv) (by simp; omega)
  exact k w' a1 a2 a3
end
/-- An element of a slice. -/
theorem Ix.elem {α : Type} {f : α → List Value} {n : Nat} {w : World} {s : Sl} {l : List α} {i : Int} {K : Addr → Prop} (h : Rd w.heap s n (l.flatMap f)) (hf : ∀ x ∈ l, (f x).length = n) (hn : 0 < n) (h0 : 0 ≤ i) (h1 : i < (s.len : Int))
    (k : ∀ b o (hi : i.toNat < l.length), s.blk = some b → (∀ j v, (f l[i.toNat])[j]? = some v → Cell w ⟨b, o + j, none⟩ v) → K ⟨b, o, none⟩) : Ix s.a s.len i n K := by
  have hl : l.length = s.len := by have := h.len; rw [flat_len' hf] at this; exact Nat.eq_of_mul_eq_mul_right hn this
  have hlt : i.toNat < l.length := by omega
  have hfl := flat_len' hf
  have hle : i.toNat * n + n ≤ (l.flatMap f).length := by
    rw [hfl]; have : (i.toNat + 1) * n ≤ l.length * n := Nat.mul_le_mul_right _ (by omega)
    rw [Nat.add_mul] at this; omega
  obtain ⟨b, off, ha, hc⟩ := h.at_ (by intro e; rw [e] at hle; simp at hle; omega)
  refine ⟨_, ha, h0, h1, ?_⟩
  rw [addr_add_none rfl]
  refine k b _ hlt (by simp [Sl.blk, ha]) fun j v hv => ?_
  have hj : j < n := by
    have := hf _ (List.getElem_mem hlt)
    rcases Nat.lt_or_ge j n with h | h
    · exact h
    · rw [List.getElem?_eq_none (by omega)] at hv; cases hv
  have hg := flat_get (i := i.toNat) (j := j) hf hlt hj
  rw [hv] at hg
  obtain ⟨hlt2, hval⟩ := List.getElem?_eq_some_iff.1 hg
  refine Cell.mk ?_
  simp only
  rw [Nat.add_assoc, hc _ hlt2, hval]
theorem Cell.row {w : World} {b o i : Nat} {k : IntKind} {l : List Int} (h : ∀ j (hj : j < l.length), Cell w ⟨b, o + i + j, none⟩ (.int k l[j])) : RowC (Cell w) ⟨b, o, none⟩ i k l := by
  intro j hj
  rw [addr_add_none rfl, ← Nat.add_assoc]
  exact h j hj
theorem Held.row {S : World → Prop} {b o i : Nat} {k : IntKind} {l : List Int} (h : ∀ j (hj : j < l.length), Held S ⟨b, o + i + j, none⟩ (.int k l[j])) : RowC (Held S) ⟨b, o, none⟩ i k l := by
  intro j hj
  rw [addr_add_none rfl, ← Nat.add_assoc]
  exact h j hj
end Go.V
