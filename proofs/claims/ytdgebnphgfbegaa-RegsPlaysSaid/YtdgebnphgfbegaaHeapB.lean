/- copy, make; stores into own slices. -/
import Derived.Test.YtdgebnphgfbegaaBits
namespace Go.V
theorem firstCells_rd {P : Program} {w : World} {s : Sl} {sz k : Nat} {cs : List Value} (h : Rd w.heap s sz cs) (hk : k ≤ s.len) : (Builtin.firstCells sz k s.v).run P w = .ok (cs.take (k * sz)).toArray w := by
  have hcut := Rd.src (P := P) (h.cut (lo := 0) (hi := k) (mx := s.cap) (Nat.zero_le _) hk (Nat.le_trans hk h.cap))
  have := hcut.get w rfl
  simp only [Nat.zero_mul, List.drop_zero, Nat.sub_zero] at this
  rw [← this]
  obtain ⟨a, n, c⟩ := s
  cases a with
  | none => simp [Builtin.firstCells, cutA]
  | some a =>
    have e : a.add 0 = a := rfl
    simp [Builtin.firstCells, cutA, e]
theorem copy_at {P : Program} {t t' e : TypeId} {ie : TypeInfo} {w : World} {d x : Sl} {b off sz : Nat} {row xs : List Value} {T : TypeId} {K : Int → World → Prop}
    (ht : P.underlying t = some (.slice e)) (hi : P.info? e = some ie) (hsz : ie.size = sz) (hd : d.a = some ⟨b, off, none⟩) (hb : w.heap[b]? = some (.cells row.toArray T (0, 0))) (hx : Rd w.heap x sz xs)
    (hle : off + min x.len d.len * sz ≤ row.length)
    (hk : ∀ w', Wrt w b (.cells (setL row off (xs.take (min x.len d.len * sz))).toArray T (0, 0)) w' → K (min x.len d.len : Nat) w') : CopyW P t t' d x.v K w := by
  have hlen : (xs.take (min x.len d.len * sz)).length = min x.len d.len * sz := by
    rw [List.length_take, hx.len]
    exact Nat.min_eq_left (Nat.mul_le_mul_right _ (Nat.min_le_left _ _))
  refine ⟨_, _, fun ty => ?_, hk _ rfl⟩
  have h1 := firstCells_rd (P := P) hx (k := min x.len d.len) (Nat.min_le_left _ _)
  have hst := StN_run (P := P) (b := b) (T := T) (fz := (0, 0)) (xs.take (min x.len d.len * sz)) w row.toArray off 0 hb (by simp only [hlen, List.size_toArray]; omega) (.inr (.inr (Nat.le_refl _))) (fun v hv => hx.cells v (List.mem_of_mem_take hv))
  obtain ⟨da, dl, dc⟩ := d
  simp only at hd
  subst hd
  simp only [Nat.add_zero] at hst
  simp only at h1 hst
  have h2 : (Builtin.firstCells sz (x.len.min dl) x.v).run P w = .ok (xs.take (min x.len dl * sz)).toArray w := h1
  simp [Builtin.copy_, run_und ht, Builtin.lenOf, run_size hi, hsz, h2, hst, goInt]
theorem MkW.mk {w : World} {e : TypeId} {zs : List Value} {bytes : Nat} {l c : Int} {K : Sl → World → Prop} (h0 : 0 ≤ l) (h1 : l ≤ c) (h2 : c ≤ 9223372036854775807) (h3 : bytes * c ≤ 281474976710656)
    (k : ∀ b w', New w (.cells (List.replicate c.toNat zs).flatten.toArray e) b w' → K ⟨some ⟨b, 0, none⟩, l.toNat, c.toNat⟩ w') : MkW w e zs bytes l c K := ⟨h0, h1, h2, h3, fun b w' h => k b w' h⟩
theorem Own.make {w w' : World} {b l c : Nat} {e : TypeId} {zs : List Value} (h : New w (.cells (List.replicate c zs).flatten.toArray e) b w') (hl : l ≤ c) (hz : ∀ v ∈ zs, oneC v = true) :
    Own w'.heap w.heap.size e zs.length ⟨some ⟨b, 0, none⟩, l, c⟩ (List.replicate l zs).flatten := by
  have e1 : List.replicate c zs = List.replicate l zs ++ List.replicate (c - l) zs := by rw [List.replicate_append_replicate]; congr 1; omega
  refine ⟨by simp, .inr ⟨b, (List.replicate (c - l) zs).flatten, rfl, by rw [h.at_]; exact Nat.le_refl _, ?_, ?_, hl⟩, ?_⟩
  · rw [← List.flatten_append, ← e1]; exact h.get
  · rw [← List.flatten_append, ← e1]; simp
  · intro v hv
    simp only [List.mem_flatten, List.mem_replicate] at hv
    obtain ⟨x, ⟨_, rfl⟩, hx⟩ := hv
    exact hz v hx
/-- One cell of an own slice of single cells is written. -/
theorem St1.own {w : World} {base : Nat} {e : TypeId} {s : Sl} {cs : List Value} {i : Int} {v : Value} {K : World → Prop} (o : Own w.heap base e 1 s cs) (h0 : 0 ≤ i) (h1 : i < (s.len : Int)) (hv : oneC v = true)
    (k : ∀ w', Own w'.heap base e 1 s (cs.set i.toNat v) → Ext (fun b => s.blk = some b) w w' → w'.heap.size = w.heap.size → K w') : Ix s.a s.len i 1 fun a => St1 w a v K := by
  have hl : cs.length = s.len := by simpa using o.len
  rcases o.is with ⟨rfl, rfl⟩ | ⟨b, rest, ha, hle, hb, hc, hcap⟩
  · simp at h1; omega
  · refine ⟨_, ha, h0, h1, ?_⟩
    rw [addr_add_none rfl]
    simp only [Nat.zero_add, Nat.mul_one]
    refine St1.mk hb (by simp; omega) hv fun w' hw => k w' ⟨by simpa using o.len, .inr ⟨b, rest, ha, hle, ?_, by simpa using hc, hcap⟩, fun u hu => ?_⟩ (hw.ext.mono fun j _ hj => by subst hj; simp [Sl.blk, ha]) hw.size
    · rw [hw.get hb, List.set_append_left _ _ (by omega)]
    · rcases List.mem_or_eq_of_mem_set hu with h | h
      · exact o.cells u h
      · subst h; exact hv
end Go.V
