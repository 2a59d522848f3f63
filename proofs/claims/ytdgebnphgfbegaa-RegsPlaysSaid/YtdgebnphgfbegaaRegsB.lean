/- Layer 9: New and Draw; what the laws know; the law RegsNone. -/
import Derived.Test.YtdgebnphgfbegaaRegsA
namespace Go.V
/-- A slice that may be written: a part of a block. -/
structure Wr (h : Array Obj) (s : Sl) (cs : List Value) : Prop where
  len : cs.length = s.len
  cap : s.len ≤ s.cap
  is : cs ≠ [] → ∃ b pre rest T, s.a = some ⟨b, pre.length, none⟩ ∧ h[b]? = some (.cells (pre ++ (cs ++ rest)).toArray T (0, 0))
  cells : ∀ v ∈ cs, oneC v = true
theorem Wr.rd {h : Array Obj} {s : Sl} {cs : List Value} (r : Wr h s cs) : Rd h s 1 cs := by
  refine ⟨by simpa using r.len, r.cap, fun hne => ?_, r.cells⟩
  obtain ⟨b, pre, rest, T, ha, hb⟩ := r.is hne
  refine ⟨b, pre.length, ha, fun i hi => ?_⟩
  unfold hcell; rw [hb]
  simp only [List.getElem?_toArray]
  rw [List.getElem?_append_right (by omega), Nat.add_sub_cancel_left, List.getElem?_append_left hi, List.getElem?_eq_getElem hi]
theorem Wr.ext {S : Nat → Prop} {w w' : World} {s : Sl} {cs : List Value} (r : Wr w.heap s cs) (x : Ext S w w') (hS : ∀ b, s.blk = some b → ¬ S b) : Wr w'.heap s cs := by
  refine ⟨r.len, r.cap, fun hne => ?_, r.cells⟩
  obtain ⟨b, pre, rest, T, ha, hb⟩ := r.is hne
  obtain ⟨hlt, _⟩ := Array.getElem?_eq_some_iff.1 hb
  exact ⟨b, pre, rest, T, ha, by rw [x.blk b hlt (hS b (by simp [Sl.blk, ha]))]; exact hb⟩
theorem Wr.no {w w' : World} {s : Sl} {cs : List Value} (r : Wr w.heap s cs) (x : Ext No w w') : Wr w'.heap s cs := r.ext x fun _ _ h => h
theorem Own.wr {h : Array Obj} {base : Nat} {e : TypeId} {s : Sl} {cs : List Value} (o : Own h base e 1 s cs) : Wr h s cs := by
  refine ⟨by simpa using o.len, o.rd.cap, fun hne => ?_, o.cells⟩
  obtain ⟨b, rest, ha, _, hb, _⟩ := o.place hne
  exact ⟨b, [], rest, e, ha, hb⟩
/-- The beginning of a slice. -/
theorem Wr.take {h : Array Obj} {s : Sl} {cs : List Value} (r : Wr h s cs) {n m : Nat} (hn : n ≤ s.len) (hm : n ≤ m) : Wr h ⟨s.a, n, m⟩ (cs.take n) := by
  refine ⟨by rw [List.length_take, r.len]; exact Nat.min_eq_left hn, hm, fun hne => ?_, fun v hv => r.cells v (List.mem_of_mem_take hv)⟩
  obtain ⟨b, pre, rest, T, ha, hb⟩ := r.is (by intro e; subst e; simp at hne)
  refine ⟨b, pre, cs.drop n ++ rest, T, ha, ?_⟩
  rw [← List.append_assoc (cs.take n), List.take_append_drop]; exact hb
theorem St1.wr {w : World} {s : Sl} {cs : List Value} {i : Int} {v : Value} {K : World → Prop} (r : Wr w.heap s cs) (h0 : 0 ≤ i) (h1 : i < (s.len : Int)) (hv : oneC v = true)
    (k : ∀ w', Wr w'.heap s (cs.set i.toNat v) → Ext (fun b => s.blk = some b) w w' → w'.heap.size = w.heap.size → K w') : Ix s.a s.len i 1 fun a => St1 w a v K := by
  have hl := r.len
  have hlt : i.toNat < cs.length := by omega
  obtain ⟨b, pre, rest, T, ha, hb⟩ := r.is (by intro e; subst e; simp at hlt)
  refine ⟨_, ha, h0, h1, ?_⟩
  rw [addr_add_none rfl]
  simp only [Nat.mul_one]
  refine St1.mk hb (by simp; omega) hv fun w' hw => k w' ⟨by simpa using r.len, r.cap, fun _ => ⟨b, pre, rest, T, ha, ?_⟩, fun u hu => ?_⟩ (hw.ext.mono fun j _ hj => by subst hj; simp [Sl.blk, ha]) hw.size
  · rw [hw.get hb, List.set_append_right _ _ (by omega), Nat.add_sub_cancel_left, List.set_append_left _ _ hlt]
  · rcases List.mem_or_eq_of_mem_set hu with h | h
    · exact r.cells u h
    · subst h; exact hv
end Go.V
namespace Go.Proofs.Ytdgebnphgfbegaa
open Go.V Go.V.Dk
section
variable {w w' : World} {g : Rgs} {R : RS}
theorem regsDraw_spec {size : Int} {K : Sl → Int → World → Prop} (r : RegsR w.heap g R) (k2 : ¬ (1 ≤ size ∧ size ≤ 64) → K ⟨none, 0, 0⟩ 2 w) (k9 : 1 ≤ size ∧ size ≤ 64 → R.draws = [] → K ⟨none, 0, 0⟩ 91 w)
    (k91 : ∀ l ls, 1 ≤ size ∧ size ≤ 64 → R.draws = l :: ls → (l.length : Int) < size → K ⟨none, 0, 0⟩ 91 w)
    (k : ∀ l ls s g' w', 1 ≤ size ∧ size ≤ 64 → R.draws = l :: ls → size ≤ (l.length : Int) → Wr w'.heap s ((l.take size.toNat).map (Value.int .u8)) → RegsR w'.heap g' { R with draws := ls } → g'.rb = g.rb → (∀ i, g'.fp i → g.fp i) → (∀ i, s.blk = some i → g.fp i ∧ ¬ g'.fp i) →
      Ext (· = g.rb) w w' → w'.heap.size = w.heap.size → K s 0 w') : C_regs_Regs_Draw g.p size w K := by
  apply S_regs_Regs_Draw
  have hlen := r.len
  have hn := r.n
  refine If.no ⟨fun w' => w' = w ∧ 1 ≤ size ∧ size ≤ 64, If.dec (fun h => k2 (by omega)) (fun h => If.dec (fun h1 => k2 (by omega)) (fun h1 => ⟨rfl, by omega, by omega⟩)), ?_⟩
  rintro _ w1 ⟨rfl, hsz⟩
  cases hd : R.draws with
  | nil =>
    refine ⟨fun _ => False, ?_, fun _ _ h => h.elim⟩
    rw [hd] at hlen
    exact Nn.mk ⟨g.sd, Cell.lst r.blk rfl, If.beq (fun _ => k9 hsz hd) (fun h => by simp at hlen; omega)⟩
  | cons l ls =>
    rw [hd] at hlen hn
    simp only [List.length_cons] at hlen hn
    have hins : 0 < g.ins.length := by omega
    obtain ⟨rb, sd, ins⟩ := g
    cases ins with
    | nil => simp at hins
    | cons s0 ins =>
    simp only at *
    have hn' : ins.length = ls.length := by simp only [List.length_cons] at hn; omega
    have inner0 := r.inner 0 (by simp) (by rw [hd]; simp)
    simp only [List.getElem_cons_zero] at inner0
    have e0 : R.draws[0]'(by rw [hd]; simp) = l := by simp [hd]
    rw [e0] at inner0
    have l0 : s0.len = l.length := RdB.len inner0.rd
    have hix : ∀ {K : Addr → Prop}, (∀ b o, Cell w1 ⟨b, o, none⟩ s0.v → K ⟨b, o, none⟩) → Ix sd.a sd.len 0 1 K := fun kk =>
      Ix.elem r.outer slC_len (by decide) (by omega) (by omega) fun b o hi hb hc => kk b o (by have := hc 0 s0.v (by simp [slC]); simpa using this)
    refine ⟨fun w' => w' = w1 ∧ size ≤ (l.length : Int), ?_, ?_⟩
    · refine Nn.mk ⟨sd, Cell.lst r.blk rfl, If.beq (fun h => by omega) (fun _ => Nn.mk ⟨sd, Cell.lst r.blk rfl, hix fun b o hc => ⟨s0, hc, If.dec (fun h => k91 l ls hsz hd (by omega)) (fun h => ⟨rfl, by omega⟩)⟩⟩)⟩
    · rintro _ w2 ⟨rfl, hle⟩
      refine Nn.mk ⟨sd, Cell.lst r.blk rfl, hix fun b o hc => ⟨s0, hc, Cut.mk (by omega) (by omega) (by omega) (by have := inner0.rd.cap; omega) ?_⟩⟩
      have ea : cutA s0.a size.toNat (0 : Int).toNat 1 = s0.a := by
        unfold cutA; split
        · rfl
        · cases s0.a with
          | none => rfl
          | some a => simp; rfl
      rw [ea]
      have hcapd := r.outer.cap
      simp only at hcapd
      refine Nn.mk ⟨sd, Cell.lst r.blk rfl, Cut.mk (by omega) (by omega) (by omega) (by omega) ?_⟩
      have cut := Rd.cut r.outer (lo := 1) (hi := sd.len) (mx := sd.cap) (by omega) (Nat.le_refl _) hcapd
      have ec : (((s0 :: ins).flatMap slC).drop (1 * 1)).take ((sd.len - 1) * 1) = ins.flatMap slC := by
        have : ((s0 :: ins).flatMap slC).drop (1 * 1) = ins.flatMap slC := by simp [slC]
        rw [this]
        exact List.take_of_length_le (by rw [flat_len' slC_len]; omega)
      rw [ec] at cut
      have e1 : ((sd.len : Int) - 1).toNat = sd.len - 1 := by omega
      have e2 : ((sd.cap : Int) - 1).toNat = sd.cap - 1 := by omega
      have e3 : ((sd.cap : Int)).toNat = sd.cap := by omega
      have e4 : (1 : Int).toNat = 1 := rfl
      rw [e1, e2, e3, e4]
      have hblk : ∀ i, (⟨cutA sd.a sd.cap 1 1, sd.len - 1, sd.cap - 1⟩ : Sl).blk = some i → sd.blk = some i := fun i hi => by
        simp only [Sl.blk, cutA] at hi ⊢
        split at hi
        · exact hi
        · cases ha : sd.a with
          | none => rw [ha] at hi; simp at hi
          | some a =>
            rw [ha] at hi
            simp only [Option.map_some, Option.some.injEq] at hi ⊢
            rw [← hi]; rfl
      generalize (⟨cutA sd.a sd.cap 1 1, sd.len - 1, sd.cap - 1⟩ : Sl) = sd' at *
      refine Nn.mk (St1.mk r.blk (by simp) rfl fun w3 hw3 => ?_)
      have nb0 : ∀ i, s0.blk = some i → i ≠ rb := fun i hi => (r.n2 s0 List.mem_cons_self i hi).1
      have pw := r.n3
      simp only [List.pairwise_cons] at pw
      have hsub : ∀ i, (⟨rb, sd', ins⟩ : Rgs).fp i → (⟨rb, sd, s0 :: ins⟩ : Rgs).fp i := fun i hi => by
        rcases hi with h | h | ⟨s, hs, h⟩
        · exact .inl h
        · exact .inr (.inl (hblk i h))
        · exact .inr (.inr ⟨s, List.mem_cons_of_mem _ hs, h⟩)
      refine k l ls ⟨s0.a, (size - 0).toNat, (size - 0).toNat⟩ ⟨rb, sd', ins⟩ w3 hsz hd hle ?_ ?_ rfl hsub (fun i hi => ?_) hw3.ext hw3.size
      · have wr := ((inner0.wr).take (n := size.toNat) (m := size.toNat) (by omega) (Nat.le_refl _)).ext hw3.ext fun i hi h => nb0 i hi h
        rw [show (size - 0).toNat = size.toNat by omega, List.map_take]; exact wr
      · refine ⟨hw3.get r.blk, cut.ext hw3.ext fun a b ha hb h => r.n1 (hblk _ (by simp [Sl.blk, ha, hb]; exact h)), fun i hi => by rw [hw3.size]; exact r.old i (hblk i hi), by simp only; omega, fun j h1 h2 => ?_, fun x hx => r.b8 x (by rw [hd]; exact List.mem_cons_of_mem _ hx), fun h => r.n1 (hblk _ h), fun s hs i hi => ⟨(r.n2 s (List.mem_cons_of_mem _ hs) i hi).1, fun h => (r.n2 s (List.mem_cons_of_mem _ hs) i hi).2 (hblk _ h)⟩, pw.2⟩
        have inn := r.inner (j + 1) (by simpa using h1) (by rw [hd]; simpa using h2)
        simp only [List.getElem_cons_succ, hd] at inn
        exact inn.ext hw3.ext fun i hi h => (r.n2 _ (List.mem_cons_of_mem _ (List.getElem_mem h1)) i hi).1 h
      · have hi' : s0.blk = some i := hi
        refine ⟨.inr (.inr ⟨s0, List.mem_cons_self, hi'⟩), fun h => ?_⟩
        rcases h with h | h | ⟨s, hs, h⟩
        · exact nb0 i hi' h
        · exact (r.n2 s0 List.mem_cons_self i hi').2 (hblk i h)
        · exact pw.1 s hs i hi' h
/-- A list of lists of bytes in memory. -/
structure RdL (h : Array Obj) (s : Sl) (L : List (List Int)) : Prop where
  ex : ∃ ins : List Sl, Rd h s 1 (ins.flatMap slC) ∧ ins.length = L.length ∧ ∀ j (h1 : j < ins.length) (h2 : j < L.length), RdB h ins[j] L[j]
  b8 : ∀ l ∈ L, B8 l
theorem RdL.len {h : Array Obj} {s : Sl} {L : List (List Int)} (r : RdL h s L) : s.len = L.length := by
  obtain ⟨ins, h1, h2, _⟩ := r.ex
  have := h1.len; rw [flat_len' slC_len] at this; omega
theorem regsNew_spec {p : Addr} {limit : Int} {draws : Sl} {L : List (List Int)} {K : Option Addr → Int → World → Prop} (hL : RdL w.heap draws L) (hn : L.length ≤ 4294967296) (hl : ∀ l ∈ L, l.length ≤ 140737488355328)
    (k : ∀ g w', RegsR w'.heap g ⟨some p, limit, 0, 0, L⟩ → (∀ i, g.fp i → w.heap.size ≤ i) → Ext No w w' → K g.p 0 w') : C_regs_New (some p) limit draws w K := by
  apply S_regs_New
  have hdl := hL.len
  obtain ⟨ins0, ho, hi0, hin⟩ := hL.ex
  refine If.no fun b w1 new => ?_
  have ab := new.at_
  have zb := new.size
  refine ⟨fun m t w2 => ∃ (j : Nat) (sd : Sl) (ins : List Sl), t = j ∧ m = L.length - j ∧ j ≤ L.length ∧ RegsR w2.heap ⟨b, sd, ins⟩ ⟨some p, limit, 0, 0, L.take j⟩ ∧ Own w2.heap 0 T_sl_uint8 1 sd (ins.flatMap slC) ∧ (∀ i, (⟨b, sd, ins⟩ : Rgs).fp i → w.heap.size ≤ i) ∧ Ext No w w2,
    ⟨_, 0, ⟨none, 0, 0⟩, [], rfl, rfl, Nat.zero_le _, ?_, Own.nil _ _ _ _, fun i hi => ?_, new.ext⟩, ?_⟩
  · exact ⟨new.get, Rd.nil _ _, fun i hi => by simp [Sl.blk] at hi, by simp, fun j h1 => by simp at h1, fun l hl => by simp at hl, by simp [Sl.blk], fun s hs => by simp at hs, List.Pairwise.nil⟩
  · rcases hi with h | h | ⟨s, hs, _⟩
    · simp only at h; omega
    · simp [Sl.blk] at h
    · simp at hs
  · rintro _ m t w2 ⟨j, sd, ins, rfl, rfl, hj, r2, own2, fp2, x2⟩
    refine If.dec (fun hlt => ?_) (fun hge => ?_)
    · have hj' : j < L.length := by omega
      have hlin := r2.n
      simp only [List.length_take] at hlin
      have hinj := hin j (by omega) hj'
      refine Ix.elem (ho.no x2) slC_len (by decide) (by omega) hlt fun bb o hi hb hc => ⟨ins0[j]'(by omega), by have := hc 0 (ins0[j]'(by omega)).v (by simp [slC]); simpa using this, ?_⟩
      have hlj := hl _ (List.getElem_mem hj')
      have hbj := hL.b8 _ (List.getElem_mem hj')
      generalize ins0[j]'(by omega) = vv at *
      generalize hLj : L[j] = lj at *
      have lvv : vv.len = lj.length := RdB.len hinj
      have r2d : RegsR (drewW w2).heap ⟨b, sd, ins⟩ ⟨some p, limit, 0, 0, L.take j⟩ := r2
      refine ⟨Ext (fun i => sd.blk = some i) w2, (Ext.refl _ _).drew, Nn.mk ⟨sd, Held.but (Cell.lst r2.blk rfl) r2.n1, fun b1 w3 n3 => ⟨(Ext.refl _ _).drew.no n3.ext, ?_⟩⟩⟩
      have own0 := Own.new (sz := 1) (n := 0) n3 rfl (by simp)
      have ed : (drewW w2).heap.size = w2.heap.size := rfl
      have z3 := n3.size
      refine app_uint8 own0 (by omega) ((hinj.no x2).no ((Ext.refl No w2).drew.no n3.ext)).src (by simp only; omega) fun s4 w4 o4 len4 x4 blk4 => ?_
      have x24 : Ext No w2 w4 := ((Ext.refl No w2).drew.no n3.ext).trans x4 fun i hi h => by have := (own0.lt h).1; omega
      refine ⟨x24.of_no, fun b2 w5 n5 => ⟨(x24.no n5.ext).of_no, ?_⟩⟩
      have x25 := x24.no n5.ext
      have z5 := x25.size
      have own2' := own2.no x25
      have hsd : sd.len = ins.length := by have := own2.len; rw [flat_len' slC_len] at this; omega
      refine app_sl_uint8 own2' (Nat.zero_le _) ((Own.new (sz := 1) (n := 1) n5 rfl (by simp [oneC])).rd.src) (by simp only; omega) fun s6 w6 o6 len6 x6 blk6 => ?_
      have x26 : Ext (fun i => sd.blk = some i) w2 w6 := x25.of_no.trans x6 fun _ _ h => h
      refine ⟨x26, Nn.mk ?_⟩
      have z24 := x24.size
      have o4' : Own w4.heap 0 T_uint8 1 s4 (lj.map (Value.int .u8)) := by simpa using o4.mono (Nat.zero_le _)
      have f4 : ∀ i, s4.blk = some i → w2.heap.size ≤ i ∧ i < w4.heap.size := fun i hi => ⟨by have := (o4.lt hi).1; omega, (o4.lt hi).2⟩
      have lt2 : ∀ i, (⟨b, sd, ins⟩ : Rgs).fp i → i < w2.heap.size := fun i hi => r2.lt hi
      have fresh : ∀ i, s6.blk = some i → sd.blk = some i ∨ w5.heap.size ≤ i := fun i hi => by
        rcases blk6 with h | ⟨i', h, hge⟩
        · exact .inl (by rw [← h]; exact hi)
        · rw [hi] at h; cases h; exact .inr hge
      have b6 : w6.heap[b]? = some (.cells (regsC ⟨some p, limit, 0, 0, L.take j⟩ sd).toArray T_regs_Regs (0, 0)) := by
        rw [x26.blk _ (blt r2.blk) r2.n1]; exact r2.blk
      refine St1.mk b6 (by simp) rfl fun w7 hw7 => Ar.i64 (by omega) ⟨_, ?_, j + 1, s6, ins ++ [s4], by omega, rfl, by omega, ?_, ?_, fun i hi => ?_, ?_⟩
      · omega
      · have n1 : s6.blk ≠ some b := fun h => by
          rcases fresh b h with h | h
          · exact r2.n1 h
          · have := lt2 b (.inl rfl); omega
        have ln5 : w4.heap.size < w5.heap.size := by rw [n5.size]; omega
        have n4b : ∀ i, s4.blk = some i → i ≠ b := fun i hi h => by have := (f4 i hi).1; have := lt2 b (.inl rfl); omega
        refine ⟨hw7.get b6, ?_, fun i hi => ?_, by simp only [List.length_append, List.length_singleton, List.length_take]; omega, fun q h1 h2 => ?_, fun l hl => hL.b8 l (List.mem_of_mem_take hl), n1, fun s hs i hi => ?_, ?_⟩
        · have := (o6.ext hw7.ext fun i hi h => n1 (by rw [hi, h])).rd
          rw [List.flatMap_append, List.flatMap_singleton]; exact this
        · rw [hw7.size]; exact (o6.lt hi).2
        · by_cases hq : q < ins.length
          · have e1 : (ins ++ [s4])[q] = ins[q] := List.getElem_append_left hq
            have e2 : (L.take (j + 1))[q] = (L.take j)[q]'(by rw [List.length_take]; omega) := by simp
            simp only [e1, e2]
            exact ((r2.inner q hq (by simp only [List.length_take]; omega)).ext x26 fun i hi h => (r2.n2 _ (List.getElem_mem hq) i hi).2 h).ext hw7.ext fun i hi h => (r2.n2 _ (List.getElem_mem hq) i hi).1 h
          · have hq2 : q = j := by simp only [List.length_append, List.length_singleton] at h1; omega
            subst hq2
            have e1 : (ins ++ [s4])[q] = s4 := by rw [List.getElem_append_right (by omega)]; simp
            have e2 : (L.take (q + 1))[q] = lj := by simp [hLj]
            simp only [e1, e2]
            exact ((o4'.no n5.ext).ext x6 fun i hi h => by have := (f4 i hi).1; have := lt2 i (.inr (.inl h)); omega).ext hw7.ext fun i hi h => n4b i hi h
        · rcases List.mem_append.1 hs with hs | hs
          · refine ⟨(r2.n2 s hs i hi).1, fun h => ?_⟩
            rcases fresh i h with h | h
            · exact (r2.n2 s hs i hi).2 h
            · have := lt2 i (.inr (.inr ⟨s, hs, hi⟩)); omega
          · simp at hs; subst hs
            refine ⟨n4b i hi, fun h => ?_⟩
            rcases fresh i h with h | h
            · have := (f4 i hi).1; have := lt2 i (.inr (.inl h)); omega
            · have := (f4 i hi).2; omega
        · rw [List.pairwise_append]
          refine ⟨r2.n3, by simp, fun s hs t ht i hi h => ?_⟩
          simp at ht; subst ht
          have := (f4 i h).1; have := lt2 i (.inr (.inr ⟨s, hs, hi⟩)); omega
      · have n1 : s6.blk ≠ some b := fun h => by
          rcases fresh b h with h | h
          · exact r2.n1 h
          · have := lt2 b (.inl rfl); omega
        have := o6.ext hw7.ext fun i hi h => n1 (by rw [hi, h])
        rw [List.flatMap_append, List.flatMap_singleton]; exact this
      · have z2 := x2.size
        rcases hi with h | h | ⟨s, hs, h⟩
        · exact fp2 i (.inl h)
        · rcases fresh i h with h | h
          · exact fp2 i (.inr (.inl h))
          · omega
        · rcases List.mem_append.1 hs with hs | hs
          · exact fp2 i (.inr (.inr ⟨s, hs, h⟩))
          · simp at hs; subst hs; have := (f4 i h).1; omega
      · exact (x2.trans x26 fun i hi h => by have := fp2 i (.inr (.inl h)); omega).trans hw7.ext fun i hi h => by
          have h' : i = b := h
          have := fp2 b (.inl rfl); omega
    · have ej : j = L.length := by omega
      have : L.take j = L := List.take_of_length_le (by omega)
      rw [this] at r2
      exact k _ w2 r2 fp2 x2
theorem known9_spec {K : Bool → World → Prop} (k : ∀ w', Ext No w w' → K true w') : C_law09_known w K := by
  apply S_law09_known
  refine diskNew_spec (fun h => absurd (by omega) h) fun _ d w1 q1 fd x1 => fun b w2 n2 b1 w3 n3 => ?_
  have e8 : (8 : Int).toNat = 8 := rfl
  rw [e8] at q1
  have o2 : OwnB w2.heap w1.heap.size ⟨some ⟨b, 0, none⟩, 3, 3⟩ [1, 2, 3] := Own.new (sz := 1) (n := 3) n2 rfl (by simp [oneC])
  have o3 := Own.new (sz := 1) (n := 1) n3 rfl (by simp [oneC])
  have hL : RdL w3.heap ⟨some ⟨b1, 0, none⟩, 1, 1⟩ [[1, 2, 3]] := by
    refine ⟨⟨[⟨some ⟨b, 0, none⟩, 3, 3⟩], o3.rd, rfl, fun j h1 h2 => ?_⟩, fun l hl x hx => ?_⟩
    · have : j = 0 := by simpa using h1
      subst this
      exact (o2.no n3.ext).rd
    · simp at hl; subst hl; simp at hx; omega
  refine regsNew_spec (p := ⟨d.b, 0, none⟩) hL (by simp) (fun l hl => by simp at hl; subst hl; simp) fun g w4 r4 fg x4 => ?_
  have q4 := ((q1.no n2.ext).no n3.ext).no x4
  refine ⟨fun w5 => w5 = w4, If.no (If.no (If.bne (fun h => absurd rfl h) fun _ => If.bne (fun h => absurd rfl h) fun _ => rfl)), ?_⟩
  rintro _ w4 rfl
  have x04 : Ext No w w4 := ((x1.no n2.ext).no n3.ext).no x4
  have dis : ∀ i, g.fp i → ¬ d.fp i := fun i hi h => by have := fg i hi; have := q1.lt h; have := n2.size; have := n3.size; omega
  have s0 : stepD (newD 8) = (0, { newD 8 with steps := 1 }) := by simp [stepD, newD]
  have s1 : stepD { newD 8 with steps := 1 } = (0, { newD 8 with steps := 2 }) := by simp [stepD, newD]
  have s2 : stepD { newD 8 with steps := 2 } = (0, { newD 8 with steps := 3 }) := by simp [stepD, newD]
  have keep : ∀ {a b : World}, Ext No w a → Ext (fun i => i = g.rb ∨ i = d.b) a b → Ext No w b := fun x y => x.trans y fun i hi h => by
    rcases h with h | h
    · have := fg i (.inl h); have := x1.size; have := n2.size; have := n3.size; omega
    · have := fd i (.inl h); omega
  have ep : ∀ R : RS, R.dev = d.p → R.dev = d.p := fun _ h => h
  refine regsReserve_spec r4 q4 rfl dis (by simp [newD]) (by simp) fun w5 r5 q5 x5 => ?_
  have e1 : reserveR ⟨some ⟨d.b, 0, none⟩, 9, 0, 0, [[1, 2, 3]]⟩ (newD 8) = (1, 0, ⟨some ⟨d.b, 0, none⟩, 9, 1, 0, [[1, 2, 3]]⟩, { newD 8 with steps := 1 }) := by simp [reserveR, s0]
  rw [e1] at r5 q5 ⊢
  refine regsReserve_spec r5 q5 rfl dis (by simp) (by simp) fun w6 r6 q6 x6 => ?_
  have e2 : reserveR ⟨some ⟨d.b, 0, none⟩, 9, 1, 0, [[1, 2, 3]]⟩ { newD 8 with steps := 1 } = (2, 0, ⟨some ⟨d.b, 0, none⟩, 9, 2, 0, [[1, 2, 3]]⟩, { newD 8 with steps := 2 }) := by simp [reserveR, s1]
  simp only at r6 q6 ⊢
  rw [e2] at r6 q6 ⊢
  refine regsAdvance_spec r6 q6 rfl dis (by simp) fun w7 r7 q7 x7 => ?_
  have e3 : advanceR ⟨some ⟨d.b, 0, none⟩, 9, 2, 0, [[1, 2, 3]]⟩ { newD 8 with steps := 2 } 2 = (0, ⟨some ⟨d.b, 0, none⟩, 9, 2, 2, [[1, 2, 3]]⟩, { newD 8 with steps := 3 }) := by simp [advanceR, s2]
  simp only at r7 q7 ⊢
  rw [e3] at r7 q7 ⊢
  simp only at r7 q7 ⊢
  have x07 := keep (keep (keep x04 x5) x6) x7
  refine regsDraw_spec r7 (fun h => absurd (by omega) h) (fun _ h => by simp at h) (fun l ls _ h hlt => by simp at h; obtain ⟨rfl, rfl⟩ := h; simp at hlt) fun l ls s8 g8 w8 _ h _ wr8 r8 hg8 _ _ x8 _ => ?_
  simp at h; obtain ⟨rfl, rfl⟩ := h
  have x08 : Ext No w w8 := x07.trans x8 fun i hi h => by have := fg i (.inl h); have := x1.size; have := n2.size; have := n3.size; omega
  have hp : g.p = g8.p := by simp [Rgs.p, hg8]
  have rd8 : Rd w8.heap s8 1 ([(1 : Int), 2].map (Value.int .u8)) := wr8.rd
  refine If.beq (fun _ => If.beq (fun _ => If.beq (fun _ => If.beq (fun _ => If.beq (fun _ => If.beq (fun _ => ?_) (fun h => absurd rfl h)) (fun h => absurd rfl h)) (fun h => absurd rfl h)) (fun h => absurd rfl h)) (fun h => absurd rfl h)) (fun h => absurd rfl h)
  refine StrC.mk rd8 (fun _ _ _ h => Cell.mk h) ?_
  have elit : ByteArray.toList (⟨#[1, 2]⟩ : ByteArray) = [1, 2] := toList_mk [1, 2]
  rw [toList_mk, elit, hp]
  refine If.cases (fun _ => ?_) (fun h => ?_)
  · refine regsCommitted_spec r8 (If.beq (fun _ => regsLeft_spec r8 ?_) (fun h => absurd rfl h))
    exact k w8 x08
  · exfalso; revert h; decide
theorem regsNone_spec {n size : Int} : C_law09_RegsNone n size w fun b w' => b = true ∧ Ext No w w' := by
  apply S_law09_RegsNone
  apply S_regs_New
  refine If.yes ⟨fun w' => w' = w, If.not (If.yes (If.bne (fun h => absurd rfl h) fun _ => rfl)), ?_⟩
  rintro _ _ rfl
  apply S_regs_Regs_Reserve
  refine If.yes ?_
  apply S_regs_Regs_Draw
  refine If.yes (If.beq (fun _ => If.beq (fun _ => If.beq (fun _ => If.beq (fun _ => ?_) (fun h => absurd rfl h)) (fun h => absurd rfl h)) (fun h => absurd rfl h)) (fun h => absurd rfl h))
  apply S_regs_Regs_Advance
  refine If.yes (If.beq (fun _ => ?_) (fun h => absurd rfl h))
  apply S_regs_Regs_Reserved
  refine If.yes (If.beq (fun _ => ?_) (fun h => absurd rfl h))
  apply S_regs_Regs_Committed
  refine If.yes (If.beq (fun _ => ?_) (fun h => absurd rfl h))
  apply S_regs_Regs_Left
  exact If.yes (If.beq (fun _ => known9_spec fun w' x => ⟨rfl, x⟩) (fun h => absurd rfl h))
end
end Go.Proofs.Ytdgebnphgfbegaa
