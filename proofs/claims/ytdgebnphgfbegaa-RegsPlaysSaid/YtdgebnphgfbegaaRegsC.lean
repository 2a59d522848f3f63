/- Layer 9: the law RegsDraws. -/
import Derived.Test.YtdgebnphgfbegaaRegsB
import Derived.Test.YtdgebnphgfbegaaFrame
namespace Go.Proofs.Ytdgebnphgfbegaa
open Go.V Go.V.Dk
section
variable {H : Type} {enc : TypeId × Value → H} {W : World}
theorem bytesL_open {s : Sl} {ess : List (List Value)} (h : Elems enc Try.prog W T_sl_uint8 s ess) : ∃ L : List (List Int), RdL W.heap s L := by
  obtain ⟨ins, h1, h2, h3⟩ := h.list slC (fun s => ∃ l : List Int, RdB W.heap s l ∧ B8 l) (fun es hl hr => by
    obtain ⟨s, hs, ess, hel⟩ := TyR.slice Try.underlying23 hr
    obtain ⟨l, rd, b8⟩ := hel.bytes (by kernel_rfl) (by kernel_rfl)
    exact ⟨s, hs, l, rd, b8⟩) (sz := 1) (by kernel_rfl) (by decide) (fun x _ v hv => by simp at hv; subst hv; rfl)
  have key : ∀ ins : List Sl, (∀ x ∈ ins, ∃ l : List Int, RdB W.heap x l ∧ B8 l) → ∃ L : List (List Int), ins.length = L.length ∧ (∀ j (h1 : j < ins.length) (h2 : j < L.length), RdB W.heap ins[j] L[j]) ∧ ∀ l ∈ L, B8 l := by
    intro ins
    induction ins with
    | nil => intro _; exact ⟨[], rfl, fun j h1 => by simp at h1, fun l hl => by simp at hl⟩
    | cons x ins ih =>
      intro hx
      obtain ⟨l, rd, b8⟩ := hx x List.mem_cons_self
      obtain ⟨L, e1, e2, e3⟩ := ih fun y hy => hx y (List.mem_cons_of_mem _ hy)
      refine ⟨l :: L, by simp [e1], fun j h1 h2 => ?_, fun m hm => ?_⟩
      · cases j with
        | zero => exact rd
        | succ j => exact e2 j (by simpa using h1) (by simpa using h2)
      · rcases List.mem_cons.1 hm with rfl | hm
        · exact b8
        · exact e3 m hm
  obtain ⟨L, e1, e2, e3⟩ := key ins h3
  exact ⟨L, ⟨ins, h2, e1, e2⟩, e3⟩
end
section
variable {w w' : World} {g : Rgs} {R : RS}
theorem RdL.no {s : Sl} {L : List (List Int)} (r : RdL w.heap s L) (x : Ext No w w') : RdL w'.heap s L := by
  obtain ⟨ins, h1, h2, h3⟩ := r.ex
  exact ⟨⟨ins, h1.no x, h2, fun j a b => (h3 j a b).no x⟩, r.b8⟩
/-- An inner slice. -/
theorem RdL.ix {s : Sl} {L : List (List Int)} {i : Int} {K : Addr → Prop} (r : RdL w.heap s L) (h0 : 0 ≤ i) (h1 : i < (s.len : Int))
    (k : ∀ b o v (hi : i.toNat < L.length), Cell w ⟨b, o, none⟩ (Sl.v v) → RdB w.heap v L[i.toNat] → K ⟨b, o, none⟩) : Ix s.a s.len i 1 K := by
  obtain ⟨ins, ho, hn, hin⟩ := r.ex
  refine Ix.elem ho slC_len (by decide) h0 h1 fun b o hi hb hc => k b o ins[i.toNat] (by omega) (by have := hc 0 (ins[i.toNat]).v (by simp [slC]); simpa using this) (hin _ hi (by omega))
theorem RdB.cut0 {s : Sl} {l : List Int} {n : Int} {K : Sl → Prop} (r : RdB w.heap s l) (h0 : 0 ≤ n) (h1 : n ≤ (l.length : Int)) (k : ∀ s', RdB w.heap s' (l.take n.toNat) → K s') : Cut s 0 n (((s.cap : Nat) : Int)) 1 K := by
  have hl := RdB.len r
  have hc := r.cap
  refine Cut.mk (by omega) (by omega) (by omega) (by omega) (k _ ?_)
  have := Rd.cut r (lo := 0) (hi := n.toNat) (mx := s.cap) (by omega) (by omega) (by omega)
  have e1 : (n - 0).toNat = n.toNat - 0 := by omega
  have e2 : ((s.cap : Int) - 0).toNat = s.cap - 0 := by omega
  rw [e1, e2]
  have e3 : ((l.map (Value.int .u8)).drop (0 * 1)).take ((n.toNat - 0) * 1) = (l.take n.toNat).map (Value.int .u8) := by simp [List.map_take]
  rw [e3] at this
  exact this
theorem StrC.held {s : Sl} {l : List Int} {K : ByteArray → Prop} (r : RdB w.heap s l) (k : K ⟨(toB l).toArray⟩) : StrC (Held (Ext No w)) s K := StrC.mk r (fun _ _ _ h => Held.no h) k
set_option maxHeartbeats 1000000 in
theorem regsDraws_spec {draws sizes : Sl} {L : List (List Int)} {ns : List Int} (hL : RdL w.heap draws L) (hz : Rd w.heap sizes 1 (ns.map (Value.int .i64))) (hzl : sizes.len ≤ 9223372036854775807) : C_law09_RegsDraws draws sizes w fun b w' => b = true ∧ Ext No w w' := by
  apply S_law09_RegsDraws
  have hl := hL.len
  have kn : ∀ {w1 : World}, Ext No w w1 → C_law09_known w1 fun r w' => r = true ∧ Ext No w w' := fun x => known9_spec fun w' x' => ⟨rfl, x.no x'⟩
  refine If.dec (fun _ => kn (Ext.refl _ _)) (fun h200 => ?_)
  refine ⟨fun m t w2 => ∃ j : Nat, t = j ∧ m = L.length - j ∧ j ≤ L.length ∧ w2 = w ∧ ∀ i (hi : i < L.length), i < j → L[i].length ≤ 80, ⟨_, 0, rfl, rfl, Nat.zero_le _, rfl, fun i _ h => by omega⟩, ?_⟩
  rintro _ m t w2 ⟨j, rfl, rfl, hj, rfl, hall⟩
  refine If.dec (fun hlt => hL.ix (by omega) hlt fun b o v hi hc hr => ⟨v, hc, ?_⟩) (fun hge => ?_)
  · have lv := RdB.len hr
    rw [show ((j : Int)).toNat = j from rfl] at hi
    simp only [Int.toNat_natCast] at lv
    refine If.dec (fun _ => kn (Ext.refl _ _)) (fun h80 => Ar.i64 (by omega) ⟨_, ?_, j + 1, by omega, rfl, by omega, rfl, fun i hi' hlt' => ?_⟩)
    · omega
    · by_cases e : i = j
      · subst e; omega
      · exact hall i hi' (by omega)
  · have hall' : ∀ l ∈ L, l.length ≤ 80 := fun l hl' => by
      obtain ⟨i, hi, rfl⟩ := List.getElem_of_mem hl'
      exact hall i hi (by omega)
    refine diskNew_spec (fun h => absurd (by omega) h) fun _ d w4 q4 fd x4 => ?_
    rw [show (8 : Int).toNat = 8 from rfl] at q4
    refine regsNew_spec (hL.no x4) (by omega) (fun l hl' => by have := hall' l hl'; omega) fun g0 w5 r5 fg x5 => ?_
    refine ⟨fun w6 => w6 = w5, If.no (If.no (If.bne (fun h => absurd rfl h) fun _ => If.bne (fun h => absurd rfl h) fun _ => rfl)), ?_⟩
    rintro _ w5 rfl
    have z4 := x4.size
    refine ⟨fun m atv t w7 => ∃ (a j : Nat) (g : Rgs), atv = a ∧ t = j ∧ m = sizes.len - j ∧ j ≤ sizes.len ∧ a ≤ L.length ∧ g.rb = g0.rb ∧ (∀ i, g.fp i → w4.heap.size ≤ i) ∧ (∀ i, g.fp i → ¬ d.fp i) ∧ RegsR w7.heap g ⟨d.p, 0, 0, 0, L.drop a⟩ ∧ DiskR w7.heap d (newD 8) ∧ Ext No w2 w7,
      ⟨_, 0, 0, g0, rfl, rfl, rfl, Nat.zero_le _, Nat.zero_le _, rfl, fg, fun i hi h => by have := fg i hi; have := q4.lt h; omega, r5, q4.no x5, x4.no x5⟩, ?_⟩
    rintro _ m atv t w7 ⟨a, j, g, rfl, rfl, rfl, hj, ha, hg, fg7, dis, r7, q7, x7⟩
    have hp : g0.p = g.p := by simp [Rgs.p, hg]
    rw [hp]
    refine If.dec (fun hlt => ?_) (fun hge => ?_)
    · refine Ix.int (hz.no x7) (by omega) hlt fun _ _ _ hc => ⟨_, hc, ?_⟩
      generalize ns.getD ((j : Int)).toNat 0 = n
      -- behind the call
      have after : ∀ (a' : Nat) (g' : Rgs) (w12 : World), a' ≤ L.length → g'.rb = g0.rb → (∀ i, g'.fp i → w4.heap.size ≤ i) → (∀ i, g'.fp i → ¬ d.fp i) → RegsR w12.heap g' ⟨d.p, 0, 0, 0, L.drop a'⟩ → DiskR w12.heap d (newD 8) → Ext No w2 w12 →
          C_regs_Regs_Left g.p w12 fun r_2 w13 => Ar .i64 (((draws.len : Int)) - (a' : Int)) fun z_4 => If (r_2 != z_4) (false = true ∧ Ext No w2 w13) (Ar .i64 ((j : Int) + 1) fun z_5 => ∃ m1_1, m1_1 < sizes.len - j ∧ ∃ (a j : Nat) (g : Rgs), (a' : Int) = a ∧ z_5 = j ∧ m1_1 = sizes.len - j ∧ j ≤ sizes.len ∧ a ≤ L.length ∧ g.rb = g0.rb ∧ (∀ i, g.fp i → w4.heap.size ≤ i) ∧ (∀ i, g.fp i → ¬ d.fp i) ∧ RegsR w13.heap g ⟨d.p, 0, 0, 0, L.drop a⟩ ∧ DiskR w13.heap d (newD 8) ∧ Ext No w2 w13) := by
        intro a' g' w12 ha' hg' f' dis' r' q' x'
        have hp' : g.p = g'.p := by simp [Rgs.p, hg, hg']
        rw [hp']
        refine regsLeft_spec r' (Ar.i64 (by omega) (If.bne (fun h => ?_) (fun _ => Ar.i64 (by omega) ⟨_, ?_, a', j + 1, g', rfl, by omega, rfl, by omega, ha', hg', f', dis', r', q', x'⟩)))
        · exfalso; apply h; simp only [List.length_drop]; omega
        · omega
      refine regsDraw_spec r7 (fun h => ?_) (fun h hd => ?_) (fun l ls h hd hlt' => ?_) (fun l ls s8 g8 w8 h hd hle wr8 r8 hg8 sub8 dis8 x8 z8 => ?_)
      · refine ⟨fun z w12 => z = a ∧ w12 = w7, If.beq (fun h => by simp at h) (fun _ => ?_), fun _ z w12 hz => by obtain ⟨rfl, rfl⟩ := hz; exact after a g _ ha hg fg7 dis r7 q7 x7⟩
        exact If.dec (fun h1 => If.dec (fun h2 => absurd ⟨h1, h2⟩ h) (fun h2 => If.bne (fun h => absurd rfl h) fun _ => ⟨rfl, rfl⟩)) (fun h1 => If.bne (fun h => absurd rfl h) fun _ => ⟨rfl, rfl⟩)
      · have hda : L.drop a = [] := hd
        have : L.length ≤ a := by simpa using hda
        refine ⟨fun z w12 => z = a ∧ w12 = w7, If.beq (fun h => by simp at h) (fun _ => ?_), fun _ z w12 hz => by obtain ⟨rfl, rfl⟩ := hz; exact after a g _ ha hg fg7 dis r7 q7 x7⟩
        exact If.dec (fun h1 => If.dec (fun h2 => If.dec (fun h3 => by omega) (fun _ => If.bne (fun h => absurd rfl h) fun _ => ⟨rfl, rfl⟩)) (fun h2 => If.bne (fun h => absurd rfl h) fun _ => ⟨rfl, rfl⟩)) (fun h1 => If.bne (fun h => absurd rfl h) fun _ => ⟨rfl, rfl⟩)
      · have hda : L.drop a = l :: ls := hd
        have hal : a < L.length := by
          rcases Nat.lt_or_ge a L.length with h | h
          · exact h
          · rw [List.drop_of_length_le h] at hda; cases hda
        have hla : L[a] = l := by rw [List.drop_eq_getElem_cons hal] at hda; cases hda; rfl
        refine ⟨fun z w12 => z = a ∧ w12 = w7, If.beq (fun h => by simp at h) (fun _ => ?_), fun _ z w12 hz => by obtain ⟨rfl, rfl⟩ := hz; exact after a g _ ha hg fg7 dis r7 q7 x7⟩
        refine If.dec (fun h1 => If.dec (fun h2 => If.dec (fun h3 => (hL.no x7).ix (by omega) (by omega) fun b o v hi hc hr => ⟨v, hc, If.dec (fun h4 => ?_) (fun _ => If.bne (fun h => absurd rfl h) fun _ => ⟨rfl, rfl⟩)⟩) (fun _ => If.bne (fun h => absurd rfl h) fun _ => ⟨rfl, rfl⟩)) (fun h2 => If.bne (fun h => absurd rfl h) fun _ => ⟨rfl, rfl⟩)) (fun h1 => If.bne (fun h => absurd rfl h) fun _ => ⟨rfl, rfl⟩)
        have := RdB.len hr
        simp only [Int.toNat_natCast, hla] at this
        omega
      · have hda : L.drop a = l :: ls := hd
        have hal : a < L.length := by
          rcases Nat.lt_or_ge a L.length with h | h
          · exact h
          · rw [List.drop_of_length_le h] at hda; cases hda
        have hla : L[a] = l := by rw [List.drop_eq_getElem_cons hal] at hda; cases hda; rfl
        have hls : L.drop (a + 1) = ls := by rw [List.drop_eq_getElem_cons hal] at hda; cases hda; rfl
        have x08 : Ext No w2 w8 := x7.trans x8 fun i hi h => by have := fg7 i (.inl h); omega
        have q8 := q7.ext x8 fun i hi h => dis i (.inl h) hi
        have dis8' : ∀ i, g8.fp i → ¬ d.fp i := fun i hi => dis i (sub8 i hi)
        refine ⟨fun z w12 => ∃ w10, z = ((a + 1 : Nat) : Int) ∧ w12 = w10 ∧ RegsR w10.heap g8 ⟨d.p, 0, 0, 0, L.drop (a + 1)⟩ ∧ DiskR w10.heap d (newD 8) ∧ Ext No w2 w10, If.beq (fun _ => ?_) (fun h => absurd rfl h), fun _ z w12 hz => ?_⟩
        · refine ⟨fun w9 => w9 = drewW w8, ⟨Ext No w8, (Ext.refl _ _).drew, ?_⟩, ?_⟩
          · refine If.dec (fun h1 => by omega) (fun _ => If.dec (fun h1 => by omega) (fun _ => If.dec (fun h1 => by omega) (fun _ => (hL.no x08).ix (by omega) (by omega) fun b o v hi hc hr => ⟨v, Held.cell hc, ?_⟩)))
            have lv := RdB.len hr
            simp only [Int.toNat_natCast, hla] at lv hr
            refine If.dec (fun h1 => by omega) (fun _ => StrC.held (l := l.take n.toNat) wr8.rd ((hL.no x08).ix (by omega) (by omega) fun b2 o2 v2 hi2 hc2 hr2 => ⟨v2, Held.cell hc2, ?_⟩))
            simp only [Int.toNat_natCast, hla] at hr2
            refine RdB.cut0 hr2 (by omega) (by omega) fun s' hs' => StrC.held hs' ?_
            exact If.not (If.cases (fun _ => rfl) (fun h => by simp at h))
          · rintro _ w9 rfl
            have ls8 : s8.len = (l.take n.toNat).length := by have := wr8.len; simp at this; simp; omega
            refine ⟨fun m t2 w10 => ∃ (q : Nat) (cs : List Int), t2 = q ∧ m = s8.len - q ∧ q ≤ s8.len ∧ Wr w10.heap s8 (cs.map (Value.int .u8)) ∧ Ext (fun i => s8.blk = some i) w8 w10, ⟨_, 0, _, rfl, rfl, Nat.zero_le _, wr8, (Ext.refl _ _).drew⟩, ?_⟩
            rintro _ m t2 w10 ⟨q, cs, rfl, rfl, hq, wr10, x10⟩
            refine If.dec (fun hlt2 => Ix.int wr10.rd (by omega) hlt2 fun _ _ _ hc => ⟨_, hc, Nm.mk (St1.wr wr10 (by omega) hlt2 rfl fun w11 wr11 x11 _ => Ar.i64 (by have := h.2; simp at ls8; omega) ⟨_, ?_, q + 1, cs.set ((q : Int)).toNat _, by omega, rfl, by omega, by rw [List.map_set]; exact wr11, x10.trans x11 fun _ _ h => h⟩)⟩) (fun hge2 => Ar.i64 (by omega) ⟨w10, by omega, rfl, ?_, ?_, ?_⟩)
            · omega
            · rw [hls]; exact r8.ext x10 fun i hi hs => (dis8 i hs).2 hi
            · exact q8.ext x10 fun i hi hs => dis i (dis8 i hs).1 hi
            · exact x08.trans x10 fun i hi hs => by have := fg7 i (dis8 i hs).1; omega
        · obtain ⟨w10, rfl, rfl, r10, q10, x10⟩ := hz
          exact after (a + 1) g8 _ (by omega) (by rw [hg8, hg]) (fun i hi => fg7 i (sub8 i hi)) dis8' r10 q10 x10
    · exact diskSteps_spec q7 (If.beq (fun _ => kn x7) (fun h => absurd rfl h))
end
end Go.Proofs.Ytdgebnphgfbegaa
