/- Layer 8: the law DiskSynced. -/
import Derived.Test.YtdgebnphgfbegaaDiskI
namespace Go.V.Dk
open Go.V
theorem getD_setA {α : Type} {l : List α} {i j : Nat} {a e : α} (h : i < l.length) : (l.set i a).getD j e = if i = j then a else l.getD j e := by
  simp only [List.getD, List.getElem?_set]
  by_cases hij : i = j
  · rw [if_pos hij, if_pos hij]; subst hij; simp [h]
  · rw [if_neg hij, if_neg hij]
/-- Each sector is of one byte, which is f or one of xs. -/
def Sect (f : Int) (xs : List Int) (r : List Int) : Prop := ∀ k, k < 256 → r.getD k 0 = r.getD (k / 64 * 64) 0 ∧ (r.getD k 0 = f ∨ r.getD k 0 ∈ xs)
theorem sect_row {f : Int} {xs : List Int} : Sect f xs (rowOf f) := fun k hk => ⟨by rw [rowOf_get hk, rowOf_get (by omega)], .inl (rowOf_get hk)⟩
theorem sect_mix {f x m : Int} {xs r : List Int} (h : Sect f xs r) (hx : x ∈ xs) : Sect f xs (mixR m r (rowOf x)) := fun k hk => by
  have hk2 : k / 64 * 64 < 256 := by omega
  obtain ⟨h1, h2⟩ := h k hk
  rw [mixR_get hk, mixR_get hk2, rowOf_get hk, rowOf_get hk2]
  unfold mixB
  rw [show k / 64 * 64 / 64 = k / 64 by omega]
  split
  · exact ⟨rfl, .inr hx⟩
  · exact ⟨h1, h2⟩
theorem sect_crash (fs : List Int) (xs : List (List Int)) : ∀ (F : List (List Int)) (ws : List (Int × List Int)) (ms : List Int), F.length = 8 → (∀ i, i < 8 → Sect (fs.getD i 0) (xs.getD i []) (F.getD i [])) →
    (∀ p ∈ ws, 0 ≤ p.1 ∧ p.1 < 8 ∧ ∃ x, p.2 = rowOf x ∧ x ∈ xs.getD p.1.toNat []) → ∀ i, i < 8 → Sect (fs.getD i 0) (xs.getD i []) ((crashF F ws ms).getD i [])
  | F, [], ms, hF, h, _ => h
  | F, p :: ws, [], hF, h, _ => h
  | F, p :: ws, m :: ms, hF, h, hw => by
    obtain ⟨h0, h8, x, hx, hm⟩ := hw p List.mem_cons_self
    rw [crashF]
    refine sect_crash fs xs _ ws ms (by rw [List.length_set]; exact hF) (fun i hi => ?_) fun q hq => hw q (List.mem_cons_of_mem _ hq)
    rw [getD_setA (by omega)]
    by_cases hpi : p.1.toNat = i
    · subst hpi
      rw [if_pos rfl, hx]
      exact sect_mix (h _ hi) hm
    · rw [if_neg hpi]; exact h i hi
theorem CalmD.sync {j : Nat} {D : DS} (c : CalmD j D) : CalmD (j + 1) (syncD { D with steps := D.steps + 1 }) := by
  have h1 := c.steps
  refine ⟨c.n, c.fail, c.cut, c.down, ?_, by simp [syncD]⟩
  simp only [syncD]; omega
end Go.V.Dk
namespace Go.Proofs.Ytdgebnphgfbegaa
open Go.V Go.V.Dk
abbrev nilS : Sl := ⟨none, 0, 0⟩
/-- An array of slices, each of which reads as a row of one byte. -/
structure Fm (w : World) (b : Nat) (d : Dev) (n : Nat) (S : List Sl) (fs : List Int) : Prop where
  arr : w.heap[b]? = some (.cells (S.map Sl.v).toArray 29 (0, 0))
  len : S.length = 8
  fl : fs.length = 8
  rd : ∀ i, i < n → RdB w.heap (S.getD i nilS) (rowOf (fs.getD i 0))
  nb : ∀ i k, i < n → (S.getD i nilS).blk = some k → k ≠ b ∧ ¬ d.fp k
  db : ¬ d.fp b
/-- An array of one's own slices. -/
structure Sc (base : Nat) (w : World) (b : Nat) (d : Dev) (T : List Sl) (xs : List (List Int)) : Prop where
  arr : w.heap[b]? = some (.cells (T.map Sl.v).toArray 29 (0, 0))
  lt : b < base
  sz : base ≤ w.heap.size
  len : T.length = 8
  xl : xs.length = 8
  own : ∀ i, i < 8 → OwnB w.heap base (T.getD i nilS) (xs.getD i [])
  nb : ∀ i k, i < 8 → (T.getD i nilS).blk = some k → ¬ d.fp k
  inj : ∀ i j k, i < 8 → j < 8 → (T.getD i nilS).blk = some k → (T.getD j nilS).blk = some k → i = j
  db : ¬ d.fp b
section
variable {w w' : World} {d d' : Dev} {D : DS} {b n base : Nat} {S T : List Sl} {fs : List Int} {xs : List (List Int)}
theorem RdB.blt {s : Sl} {l : List Int} {k : Nat} (r : RdB w.heap s l) (h : l ≠ []) (hk : s.blk = some k) : k < w.heap.size := by
  obtain ⟨b, off, ha, hc⟩ := r.at_ (by simpa using h)
  have e : b = k := by simpa [Sl.blk, ha] using hk
  subst e
  have hl : 0 < (l.map (Value.int .u8)).length := by cases l with
    | nil => exact absurd rfl h
    | cons _ _ => simp
  exact hcell_lt (hc 0 hl)
theorem blk_of {s : Sl} {a : Addr} {k : Nat} (ha : s.a = some a) (hk : a.block = k) : s.blk = some k := by unfold Sl.blk; rw [ha, ← hk]; rfl
theorem rowOf_ne (x : Int) : rowOf x ≠ [] := fun h => by have := congrArg List.length h; unfold rowOf at this; rw [List.length_replicate] at this; simp at this
theorem Fm.lt (f : Fm w b d n S fs) {i k : Nat} (hi : i < n) (h : (S.getD i nilS).blk = some k) : k < w.heap.size := RdB.blt (f.rd i hi) (rowOf_ne _) h
theorem Fm.ext {Q : Nat → Prop} (f : Fm w b d n S fs) (x : Ext Q w w') (hQ : ∀ k, Q k → k ≠ b ∧ ∀ i, i < n → (S.getD i nilS).blk ≠ some k) (hd : ∀ k, d'.fp k → d.fp k ∨ w.heap.size ≤ k) : Fm w' b d' n S fs := by
  refine ⟨?_, f.len, f.fl, fun i hi => (f.rd i hi).ext x fun a k ha hk h => (hQ k h).2 i hi (blk_of ha hk), fun i k hi hk => ⟨(f.nb i k hi hk).1, fun h => ?_⟩, fun h => ?_⟩
  · rw [x.blk _ (blt f.arr) fun h => (hQ b h).1 rfl]; exact f.arr
  · rcases hd k h with h | h
    · exact (f.nb i k hi hk).2 h
    · have := f.lt hi hk; omega
  · rcases hd b h with h | h
    · exact f.db h
    · have := blt f.arr; omega
theorem Fm.no (f : Fm w b d n S fs) (x : Ext No w w') : Fm w' b d n S fs := f.ext x (fun _ h => h.elim) fun _ h => .inl h
theorem Fm.dev (f : Fm w b d n S fs) (x : Ext d.fp w w') (g : Grow w d d') : Fm w' b d' n S fs :=
  f.ext x (fun k h => ⟨fun e => f.db (e ▸ h), fun i hi e => (f.nb i k hi e).2 h⟩) g.fp
theorem addI {b : Nat} {z : Int} : (Addr.mk b 0 none).add (Int.toNat z * 1) = ⟨b, z.toNat, none⟩ := by rw [addr_add_none rfl]; simp
theorem arrCell {b : Nat} {z : Int} (h : w.heap[b]? = some (.cells (S.map Sl.v).toArray 29 (0, 0))) (hl : S.length = 8) (hz : 0 ≤ z ∧ z < 8) : Cell w ⟨b, z.toNat, none⟩ (S.getD z.toNat nilS).v := by
  have hlt : z.toNat < S.length := by omega
  refine Cell.lst h ?_
  simp [List.getD, hlt]
/-- A slot of the array is written. -/
theorem Fm.put {z : Int} {s : Sl} {x : Int} {base : Nat} {K : World → Prop} (f : Fm w b d n S fs) (hz : 0 ≤ z ∧ z < 8) (o : OwnB w.heap base s (rowOf x)) (hb : b < base) (hn : n = 8 ∨ n = z.toNat) (hd : ∀ k, d.fp k → k < base)
    (k : ∀ w', Fm w' b d (if n = 8 then 8 else n + 1) (S.set z.toNat s) (fs.set z.toNat x) → Ext (· = b) w w' → K w') : (0 : Int) ≤ z ∧ z < ((8 : Nat) : Int) ∧ St1 w ((Addr.mk b 0 none).add (Int.toNat z * 1)) (.slice s.a s.len s.cap) K := by
  have hl := f.len
  have hfl := f.fl
  refine ⟨hz.1, hz.2, ?_⟩
  rw [addI]
  refine St1.mk f.arr (by simp; omega) rfl fun w1 hw => k w1 ⟨?_, by simp [hl], by simp [hfl], fun i hi => ?_, fun i q hi hq => ?_, f.db⟩ hw.ext
  · rw [hw.get f.arr, List.map_set]
  · rw [getD_setA (by omega), getD_setA (by omega)]
    by_cases e : z.toNat = i
    · rw [if_pos e, if_pos e]
      exact (o.ext hw.ext fun j hj h => by have := (o.lt hj).1; have h' : j = b := h; omega).rd
    · rw [if_neg e, if_neg e]
      have hi' : i < n := by rcases hn with h | h <;> split at hi <;> omega
      exact (f.rd i hi').ext hw.ext fun a q ha hq h => (f.nb i q hi' (blk_of ha hq)).1 h
  · rw [getD_setA (by omega)] at hq
    by_cases e : z.toNat = i
    · rw [if_pos e] at hq
      have := (o.lt hq).1
      exact ⟨by omega, fun h => by have := hd q h; omega⟩
    · rw [if_neg e] at hq
      have hi' : i < n := by rcases hn with h | h <;> split at hi <;> omega
      exact f.nb i q hi' hq
theorem Sc.ext {Q : Nat → Prop} (f : Sc base w b d T xs) (x : Ext Q w w') (hQ : ∀ k, Q k → k ≠ b ∧ ∀ i, i < 8 → (T.getD i nilS).blk ≠ some k) (hd : ∀ k, d'.fp k → d.fp k ∨ w.heap.size ≤ k) : Sc base w' b d' T xs := by
  refine ⟨?_, f.lt, Nat.le_trans f.sz x.size, f.len, f.xl, fun i hi => (f.own i hi).ext x fun k hk h => (hQ k h).2 i hi hk, fun i k hi hk h => ?_, f.inj, fun h => ?_⟩
  · rw [x.blk _ (blt f.arr) fun h => (hQ b h).1 rfl]; exact f.arr
  · rcases hd k h with h | h
    · exact f.nb i k hi hk h
    · have := ((f.own i hi).lt hk).2; omega
  · rcases hd b h with h | h
    · exact f.db h
    · have := blt f.arr; omega
theorem Sc.no (f : Sc base w b d T xs) (x : Ext No w w') : Sc base w' b d T xs := f.ext x (fun _ h => h.elim) fun _ h => .inl h
theorem Sc.dev (f : Sc base w b d T xs) (x : Ext d.fp w w') (g : Grow w d d') : Sc base w' b d' T xs :=
  f.ext x (fun k h => ⟨fun e => f.db (e ▸ h), fun i hi e => f.nb i k hi e h⟩) g.fp
/-- A slot's slice has grown, and is written. -/
theorem Sc.put {w1 : World} {z : Int} {s : Sl} {x : Int} {K : World → Prop} (f : Sc base w b d T xs) (hz : 0 ≤ z ∧ z < 8) (x1 : Ext (fun k => (T.getD z.toNat nilS).blk = some k) w w1) (o : OwnB w1.heap base s (xs.getD z.toNat [] ++ [x]))
    (hs : s.blk = (T.getD z.toNat nilS).blk ∨ ∃ k, s.blk = some k ∧ w.heap.size ≤ k) (hd : ∀ k, d.fp k → k < w.heap.size)
    (k : ∀ w', Sc base w' b d (T.set z.toNat s) (xs.set z.toNat (xs.getD z.toNat [] ++ [x])) → Ext (fun k => k = b ∨ (T.getD z.toNat nilS).blk = some k) w w' → K w') : (0 : Int) ≤ z ∧ z < ((8 : Nat) : Int) ∧ St1 w1 ((Addr.mk b 0 none).add (Int.toNat z * 1)) (.slice s.a s.len s.cap) K := by
  have hl := f.len
  have hxl := f.xl
  have hz8 : z.toNat < 8 := by omega
  refine ⟨hz.1, hz.2, ?_⟩
  rw [addI]
  have nbz : ∀ j, (T.getD z.toNat nilS).blk = some j → j ≠ b := fun j hj e => by have := ((f.own z.toNat hz8).lt hj).1; have := f.lt; omega
  have arr1 : w1.heap[b]? = some (.cells (T.map Sl.v).toArray 29 (0, 0)) := by rw [x1.blk _ (blt f.arr) fun h => nbz b h rfl]; exact f.arr
  have other : ∀ i, i < 8 → i ≠ z.toNat → ∀ j, (T.getD i nilS).blk = some j → ¬ (T.getD z.toNat nilS).blk = some j := fun i hi hne j hj h => hne (f.inj i z.toNat j hi hz8 hj h)
  have new : ∀ j, s.blk = some j → (T.getD z.toNat nilS).blk = some j ∨ w.heap.size ≤ j := fun j hj => by
    rcases hs with h | ⟨q, h, hq⟩
    · exact .inl (h ▸ hj)
    · rw [hj] at h; cases h; exact .inr hq
  refine St1.mk arr1 (by simp; omega) rfl fun w2 hw => k w2 ⟨?_, f.lt, ?_, by simp [hl], by simp [hxl], fun i hi => ?_, fun i q hi hq h => ?_, fun i j q hi hj hiq hjq => ?_, f.db⟩ ?_
  · rw [hw.get arr1, List.map_set]
  · rw [hw.size]; exact Nat.le_trans f.sz x1.size
  · rw [getD_setA (by omega), getD_setA (by omega)]
    by_cases e : z.toNat = i
    · rw [if_pos e, if_pos e]
      exact o.ext hw.ext fun j hj h => by have := (o.lt hj).1; have h' : j = b := h; have := f.lt; omega
    · rw [if_neg e, if_neg e]
      exact ((f.own i hi).ext x1 (other i hi (Ne.symm e))).ext hw.ext fun j hj h => by have := ((f.own i hi).lt hj).1; have h' : j = b := h; have := f.lt; omega
  · rw [getD_setA (by omega)] at hq
    by_cases e : z.toNat = i
    · rw [if_pos e] at hq
      rcases new q hq with h' | h'
      · exact f.nb _ q hz8 h' h
      · have := hd q h; omega
    · rw [if_neg e] at hq
      exact f.nb i q hi hq h
  · rw [getD_setA (by omega)] at hiq hjq
    have key : ∀ i, i < 8 → z.toNat ≠ i → (T.getD i nilS).blk = some q → s.blk ≠ some q := fun i hi hne h1 h2 => by
      rcases new q h2 with h' | h'
      · exact other i hi (Ne.symm hne) q h1 h'
      · have := ((f.own i hi).lt h1).2; omega
    by_cases e1 : z.toNat = i <;> by_cases e2 : z.toNat = j
    · omega
    · rw [if_pos e1] at hiq; rw [if_neg e2] at hjq
      exact absurd hiq (key j hj e2 hjq)
    · rw [if_neg e1] at hiq; rw [if_pos e2] at hjq
      exact absurd hjq (key i hi e1 hiq)
    · rw [if_neg e1] at hiq; rw [if_neg e2] at hjq
      exact f.inj i j q hi hj hiq hjq
  · exact (x1.mono (S' := fun k => k = b ∨ (T.getD z.toNat nilS).blk = some k) fun _ _ h => .inr h).trans hw.ext fun _ _ h => .inl h
end
end Go.Proofs.Ytdgebnphgfbegaa
