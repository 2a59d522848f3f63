/- Layer 11: Decode; the law RunsDecodes. -/
import Derived.Test.YtomlobgpeobnfaaRunsT
namespace Go.Proofs.Ytomlobgpeobnfaa
open Go.V Go.V.Rn Go.V.Pk
/-- How Decode stands: the variables that its closure keeps, and its reader. -/
structure DSt (h : Array Obj) (b1 b4 b3 b2 rb : Nat) (bs s : Sl) (l : List Int) (at_ : Nat) (f atv e : Int) : Prop where
  i1 : h[b1]? = some (.cells [bs.v].toArray 49 (0, 0))
  i4 : h[b4]? = some (.cells [.pointer (some ⟨rb, 0, none⟩)].toArray 67 (0, 0))
  i3 : h[b3]? = some (.cells [.int .i64 atv].toArray 3 (0, 0))
  i2 : h[b2]? = some (.cells [.int .i64 e].toArray 25 (0, 0))
  r : Rdr h rb s l at_ f
  len : bs.len = l.length
  n1 : b1 ≠ b3 ∧ b1 ≠ b2 ∧ b1 ≠ rb
  n4 : b4 ≠ b3 ∧ b4 ≠ b2 ∧ b4 ≠ rb
  n3 : b3 ≠ b2 ∧ b3 ≠ rb ∧ b2 ≠ rb
  ns : s.blk ≠ some b3 ∧ s.blk ≠ some b2
section
variable {w : World} {b1 b4 b3 b2 rb : Nat} {bs s : Sl} {l : List Int} {at_ : Nat} {f atv e : Int}
theorem DSt.no {w' : World} (d : DSt w.heap b1 b4 b3 b2 rb bs s l at_ f atv e) (x : Ext No w w') : DSt w'.heap b1 b4 b3 b2 rb bs s l at_ f atv e :=
  ⟨by rw [x.blk _ (blt d.i1) id]; exact d.i1, by rw [x.blk _ (blt d.i4) id]; exact d.i4, by rw [x.blk _ (blt d.i3) id]; exact d.i3, by rw [x.blk _ (blt d.i2) id]; exact d.i2, d.r.no x, d.len, d.n1, d.n4, d.n3, d.ns⟩
theorem DSt.other {S : Nat → Prop} {w' : World} (d : DSt w.heap b1 b4 b3 b2 rb bs s l at_ f atv e) (x : Ext S w w') (h1 : ¬ S b1) (h4 : ¬ S b4) (h3 : ¬ S b3) (h2 : ¬ S b2) (hr : ¬ S rb) (hs : ∀ b, s.blk = some b → ¬ S b) : DSt w'.heap b1 b4 b3 b2 rb bs s l at_ f atv e :=
  ⟨by rw [x.blk _ (blt d.i1) h1]; exact d.i1, by rw [x.blk _ (blt d.i4) h4]; exact d.i4, by rw [x.blk _ (blt d.i3) h3]; exact d.i3, by rw [x.blk _ (blt d.i2) h2]; exact d.i2, d.r.ext x hr hs, d.len, d.n1, d.n4, d.n3, d.ns⟩
theorem DSt.setAt {w' : World} {z : Int} (d : DSt w.heap b1 b4 b3 b2 rb bs s l at_ f atv e) (hw : Wrt w b3 (.cells [.int .i64 z].toArray 3 (0, 0)) w') : DSt w'.heap b1 b4 b3 b2 rb bs s l at_ f z e :=
  ⟨by rw [hw.other d.n1.1]; exact d.i1, by rw [hw.other d.n4.1]; exact d.i4, hw.get d.i3, by rw [hw.other (Ne.symm d.n3.1)]; exact d.i2,
    d.r.ext hw.ext (fun h => d.n3.2.1 h.symm) (fun b hb h => d.ns.1 (by rw [hb, h])), d.len, d.n1, d.n4, d.n3, d.ns⟩
theorem DSt.setE {w' : World} {z : Int} (d : DSt w.heap b1 b4 b3 b2 rb bs s l at_ f atv e) (hw : Wrt w b2 (.cells [.int .i64 z].toArray 25 (0, 0)) w') : DSt w'.heap b1 b4 b3 b2 rb bs s l at_ f atv z :=
  ⟨by rw [hw.other d.n1.2.1]; exact d.i1, by rw [hw.other d.n4.2.1]; exact d.i4, by rw [hw.other d.n3.1]; exact d.i3, hw.get d.i2,
    d.r.ext hw.ext (fun h => d.n3.2.2 h.symm) (fun b hb h => d.ns.2 (by rw [hb, h])), d.len, d.n1, d.n4, d.n3, d.ns⟩
theorem DSt.setR {w' : World} {at' : Nat} {f' : Int} (d : DSt w.heap b1 b4 b3 b2 rb bs s l at_ f atv e) (x : Ext (· = rb) w w') (r' : Rdr w'.heap rb s l at' f') : DSt w'.heap b1 b4 b3 b2 rb bs s l at' f' atv e :=
  ⟨by rw [x.blk _ (blt d.i1) d.n1.2.2]; exact d.i1, by rw [x.blk _ (blt d.i4) d.n4.2.2]; exact d.i4, by rw [x.blk _ (blt d.i3) d.n3.2.1]; exact d.i3, by rw [x.blk _ (blt d.i2) d.n3.2.2]; exact d.i2, r', d.len, d.n1, d.n4, d.n3, d.ns⟩
abbrev DW (b3 b2 rb : Nat) : Nat → Prop := fun i => i = b3 ∨ i = b2 ∨ i = rb
theorem decode1_spec {least endv : Int} {K : Int → Bool → World → Prop} (d : DSt w.heap b1 b4 b3 b2 rb bs s l at_ 0 atv 0) (h1 : 0 ≤ endv ∧ endv ≤ 4294967295)
    (k1 : (tk 0 0 (l.drop at_)).2.2 ≠ 0 → ∀ w', DSt w'.heap b1 b4 b3 b2 rb bs s l at_ (tk 0 0 (l.drop at_)).2.2 at_ 0 → Ext (DW b3 b2 rb) w w' → K 0 false w')
    (k2 : (tk 0 0 (l.drop at_)).2.2 = 0 → ((tk 0 0 (l.drop at_)).1 < least ∨ (tk 0 0 (l.drop at_)).1 > 4294967295 - endv) → ∀ w', DSt w'.heap b1 b4 b3 b2 rb bs s l (at_ + (tk 0 0 (l.drop at_)).2.1) 0 at_ 5 → Ext (DW b3 b2 rb) w w' → K 0 false w')
    (k3 : (tk 0 0 (l.drop at_)).2.2 = 0 → ¬ ((tk 0 0 (l.drop at_)).1 < least ∨ (tk 0 0 (l.drop at_)).1 > 4294967295 - endv) → ∀ w', DSt w'.heap b1 b4 b3 b2 rb bs s l (at_ + (tk 0 0 (l.drop at_)).2.1) 0 at_ 0 → Ext (DW b3 b2 rb) w w' → K (tk 0 0 (l.drop at_)).1 true w') :
    C_runs_Decode_1 least endv ⟨b1, 0, none⟩ ⟨b4, 0, none⟩ ⟨b3, 0, none⟩ ⟨b2, 0, none⟩ w K := by
  apply S_runs_Decode_1
  have hlen := d.r.len
  have hle := d.r.le
  have hbl := d.len
  refine ⟨Ext (· = b3) w, (Ext.refl _ _).drew, bs, Held.but (Cell.lst d.i1 rfl) d.n1.1, _, Held.but (Cell.lst d.i4 rfl) d.n4.1, ?_⟩
  have dd : DSt (drewW w).heap b1 b4 b3 b2 rb bs s l at_ 0 atv 0 := d
  refine readerLeft_spec dd.r fun w1 hw1 ext1 => ⟨(Ext.refl _ _).drew.no ext1, Ar.i64 (by omega) ?_⟩
  have d1 := dd.no ext1
  refine St1.mk d1.i3 (by simp) rfl fun w2 hw2 => ?_
  have e1 : ((bs.len : Int) - ((l.length : Int) - (at_ : Int))) = (at_ : Int) := by omega
  rw [e1] at hw2
  have d2 := d1.setAt hw2
  have x2 : Ext (DW b3 b2 rb) w w2 := ((Ext.refl _ _).drew.no ext1).trans hw2.ext fun i _ h => .inl h
  refine ⟨((Ext.refl _ _).drew.no ext1).trans hw2.ext fun i _ h => h, _, Cell.lst d2.i4 rfl, readerNum_spec d2.r fun w3 r3 ext3 _ => ?_⟩
  have d3 := d2.setR ext3 r3
  have x3 : Ext (DW b3 b2 rb) w w3 := x2.trans ext3 fun i _ h => .inr (.inr h)
  have hok := tk_ok (l := l) hle
  have hN : rNum l at_ 0 = if (tk 0 0 (l.drop at_)).2.2 ≠ 0 then (0, at_, (tk 0 0 (l.drop at_)).2.2) else ((tk 0 0 (l.drop at_)).1, at_ + (tk 0 0 (l.drop at_)).2.1, 0) := by simp [rNum]
  have ht := tk_rng (d.r.rng.drop at_)
  generalize tk 0 0 (l.drop at_) = t at *
  obtain ⟨n, kk, g⟩ := t
  simp only at *
  refine ⟨Ext No w3, (Ext.refl _ _).drew, _, Held.cell (Cell.lst d3.i4 rfl), bs, Held.cell (Cell.lst d3.i1 rfl), _, Held.cell (Cell.lst d3.i3 rfl), Ar.i64 (by omega) ?_⟩
  have dd3 : DSt (drewW w3).heap b1 b4 b3 b2 rb bs s l (rNum l at_ 0).2.1 (rNum l at_ 0).2.2 at_ 0 := d3
  refine readerLeft_spec dd3.r fun w4 hw4 ext4 => ⟨(Ext.refl _ _).drew.no ext4, ?_⟩
  have d4 := dd3.no ext4
  have x4 : Ext (DW b3 b2 rb) w w4 := x3.drew.no ext4
  have hle3 := rNum_le l at_ 0 hle
  by_cases hg : g = 0
  · subst hg
    rw [if_neg (by simp)] at hN
    rw [hN] at d4 hle3 ⊢
    obtain ⟨hk1, hk2⟩ := hok rfl
    simp only at *
    refine If.beq (fun h => by omega) (fun _ => If.dec (fun h2 => ?_) (fun h2 => Ar.u64 (by omega) (If.dec (fun h3 => ?_) (fun h3 => k3 trivial (by omega) w4 d4 x4))))
    · exact St1.mk d4.i2 (by simp) rfl fun w5 hw5 => k2 trivial (.inl h2) w5 (d4.setE hw5) (x4.trans hw5.ext fun i _ h => .inr (.inl h))
    · exact St1.mk d4.i2 (by simp) rfl fun w5 hw5 => k2 trivial (.inr h3) w5 (d4.setE hw5) (x4.trans hw5.ext fun i _ h => .inr (.inl h))
  · rw [if_pos hg] at hN
    rw [hN] at d4 ⊢
    simp only at *
    exact If.beq (fun _ => k1 hg w4 d4 x4) (fun h => by omega)
end
theorem iMin_eq (x y : Int) : iMin x y = min x y := by unfold iMin; omega
theorem decode_spec {b : Sl} {w : World} {K : Sl → Int → Int → World → Prop} {l : List Int} (hb : RdB w.heap b l) (h8 : B8 l) (hlen : l.length ≤ 140737488355328)
    (k : ∀ s w', OwnR w'.heap w.heap.size s (decL l).1 → Ext No w w' → K s (decL l).2.1 (decL l).2.2 w') : C_runs_Decode b w K := by
  apply S_runs_Decode
  have hl := RdB.len hb
  refine fun b1 w1 n1 b2 w2 n2 b3 w3 n3 => ⟨b, Cell.lst (by rw [n3.ext.blk _ (by rw [n2.size]; have := n1.at_; have := n1.size; omega) id, n2.ext.blk _ (by have := n1.at_; have := n1.size; omega) id]; exact n1.get) rfl, ?_⟩
  have a1 := n1.at_
  have a2 := n2.at_
  have a3 := n3.at_
  have z1 := n1.size
  have z2 := n2.size
  have z3 := n3.size
  have x3 : Ext No w w3 := (n1.ext.no n2.ext).no n3.ext
  refine newReader_spec (hb.no x3) h8 hlen fun rb s w4 r4 hrb hs ext4 => fun b4 w5 n4 => ?_
  have a4 := n4.at_
  have z4 := ext4.size
  have hrb4 : rb < w4.heap.size := by obtain ⟨T, hT⟩ := r4.blk; exact blt hT
  have i1 : w5.heap[b1]? = some (.cells [b.v].toArray 49 (0, 0)) := by
    rw [n4.ext.blk _ (by omega) id, ext4.blk _ (by omega) id, n3.ext.blk _ (by omega) id, n2.ext.blk _ (by omega) id]; exact n1.get
  have i2 : w5.heap[b2]? = some (.cells [.int .i64 0].toArray 25 (0, 0)) := by
    rw [n4.ext.blk _ (by omega) id, ext4.blk _ (by omega) id, n3.ext.blk _ (by omega) id]; exact n2.get
  have i3 : w5.heap[b3]? = some (.cells [.int .i64 0].toArray 3 (0, 0)) := by
    rw [n4.ext.blk _ (by omega) id, ext4.blk _ (by omega) id]; exact n3.get
  refine St1.mk n4.get (by simp) rfl fun w6 hw6 => ?_
  have d6 : DSt w6.heap b1 b4 b3 b2 rb b s l 0 0 0 0 := by
    refine ⟨by rw [hw6.other (by omega)]; exact i1, hw6.get n4.get, by rw [hw6.other (by omega)]; exact i3, by rw [hw6.other (by omega)]; exact i2, (r4.no n4.ext).ext hw6.ext (by omega) (fun i hi h => ?_), hl, ⟨by omega, by omega, by omega⟩, ⟨by omega, by omega, by omega⟩, ⟨by omega, by omega, by omega⟩, ⟨fun h => ?_, fun h => ?_⟩⟩
    · have := hs i hi; omega
    · have := hs _ h; omega
    · have := hs _ h; omega
  have z6 : w6.heap.size = w4.heap.size + 1 := by rw [hw6.size, n4.size]
  have x6 : Ext No w w6 := ((x3.no ext4).no n4.ext).trans hw6.ext fun i hi h => by omega
  refine ⟨_, Cell.lst d6.i4 rfl, readerNum_spec d6.r fun w7 r7 ext7 _ => ?_⟩
  have d7 := d6.setR ext7 r7
  have x7 : Ext No w w7 := x6.trans ext7 fun i hi h => by omega
  -- what comes behind the loop
  have fin : ∀ (s1 : Sl) (O : List Run) (a : Nat) (f atv e : Int) (w13 : World), DSt w13.heap b1 b4 b3 b2 rb b s l a f atv e → OwnR w13.heap w6.heap.size s1 O → Ext No w w13 →
      (e ≠ 0 → decL l = ([], e, atv)) → (e = 0 → f ≠ 0 → decL l = ([], f, (a : Int))) → (e = 0 → f = 0 → a < l.length → decL l = ([], 5, (a : Int))) → (e = 0 → f = 0 → a = l.length → decL l = (O, 0, 0)) →
      ∃ vv_2 : Int, Cell w13 (Addr.mk b2 0 none) (.int .i64 vv_2) ∧ If (vv_2 != 0) (
        ∃ S : World → Prop, S (drewW w13) ∧ ∃ vv_3 : Int, Held S (Addr.mk b2 0 none) (.int .i64 vv_3) ∧ ∃ vv_4 : Int, Held S (Addr.mk b3 0 none) (.int .i64 vv_4) ∧
        St1 (drewW w13) (Addr.mk b2 0 none) (.int .i64 vv_3) fun w14 => S w14 ∧ St1 w14 (Addr.mk b3 0 none) (.int .i64 vv_4) fun w15 => S w15 ∧
        ∃ vv_5 : Int, Cell w15 (Addr.mk b2 0 none) (.int .i64 vv_5) ∧ ∃ vv_6 : Int, Cell w15 (Addr.mk b3 0 none) (.int .i64 vv_6) ∧ K ⟨none, 0, 0⟩ vv_5 vv_6 w15) (
        ∃ vv_7 : Option Addr, Cell w13 (Addr.mk b4 0 none) (.pointer vv_7) ∧ C_pack_Reader_Done vv_7 w13 fun r0_3 r1_3 w16 => If (r0_3 != 0) (
          St1 w16 (Addr.mk b2 0 none) (.int .i64 r0_3) fun w17 => St1 w17 (Addr.mk b3 0 none) (.int .i64 r1_3) fun w18 =>
          ∃ vv_8 : Int, Cell w18 (Addr.mk b2 0 none) (.int .i64 vv_8) ∧ ∃ vv_9 : Int, Cell w18 (Addr.mk b3 0 none) (.int .i64 vv_9) ∧ K ⟨none, 0, 0⟩ vv_8 vv_9 w18) (
          St1 w16 (Addr.mk b2 0 none) (.int .i64 0) fun w19 => St1 w19 (Addr.mk b3 0 none) (.int .i64 0) fun w20 =>
          ∃ vv_10 : Int, Cell w20 (Addr.mk b2 0 none) (.int .i64 vv_10) ∧ ∃ vv_11 : Int, Cell w20 (Addr.mk b3 0 none) (.int .i64 vv_11) ∧ K s1 vv_10 vv_11 w20)) := by
    intro s1 O a f atv e w13 d own x hE hF hA hZ
    have old : ∀ {w' w'' : World} {i : Nat} {o : Obj}, Ext No w w' → w.heap.size ≤ i → Wrt w' i o w'' → Ext No w w'' := fun hx hi hw => hx.trans hw.ext fun j hj h => by omega
    refine ⟨e, Cell.lst d.i2 rfl, If.bne (fun he => ?_) (fun he => ?_)⟩
    · have c2 : (drewW w13).cell? ⟨b2, 0, none⟩ = some (.int .i64 e) := Cell.lst (w := drewW w13) d.i2 rfl
      have c3 : (drewW w13).cell? ⟨b3, 0, none⟩ = some (.int .i64 atv) := Cell.lst (w := drewW w13) d.i3 rfl
      refine ⟨fun w' => w'.cell? ⟨b2, 0, none⟩ = some (.int .i64 e) ∧ w'.cell? ⟨b3, 0, none⟩ = some (.int .i64 atv), ⟨c2, c3⟩, e, fun w' h => h.1, atv, fun w' h => h.2, ?_⟩
      have dd : DSt (drewW w13).heap b1 b4 b3 b2 rb b s l a f atv e := d
      refine St1.mk dd.i2 (by simp) rfl fun w14 hw14 => ?_
      have d14 := dd.setE hw14
      refine ⟨⟨Cell.lst d14.i2 rfl, Cell.lst d14.i3 rfl⟩, St1.mk d14.i3 (by simp) rfl fun w15 hw15 => ?_⟩
      have d15 := d14.setAt hw15
      refine ⟨⟨Cell.lst d15.i2 rfl, Cell.lst d15.i3 rfl⟩, _, Cell.lst d15.i2 rfl, _, Cell.lst d15.i3 rfl, ?_⟩
      rw [hE he] at k
      exact k _ w15 (Own.nil _ _ _ _) (old (old x.drew (by omega) hw14) (by omega) hw15)
    · refine ⟨_, Cell.lst d.i4 rfl, readerDone_spec d.r fun w16 hw16 ext16 => ?_⟩
      have d16 := d.no ext16
      have x16 := x.no ext16
      have hle := d.r.le
      have hD : rDone l a f = if f = 0 ∧ a < l.length then (5, (a : Int)) else (f, (a : Int)) := rfl
      refine If.bne (fun hd => St1.mk d16.i2 (by simp) rfl fun w17 hw17 => ?_) (fun hd => St1.mk d16.i2 (by simp) rfl fun w17 hw17 => ?_)
      · have d17 := d16.setE hw17
        refine St1.mk d17.i3 (by simp) rfl fun w18 hw18 => ?_
        have d18 := d17.setAt hw18
        refine ⟨_, Cell.lst d18.i2 rfl, _, Cell.lst d18.i3 rfl, ?_⟩
        have : decL l = ([], (rDone l a f).1, (rDone l a f).2) := by
          rw [hD] at hd ⊢
          by_cases hc : f = 0 ∧ a < l.length
          · rw [if_pos hc]; exact hA he hc.1 hc.2
          · rw [if_neg hc] at hd ⊢
            exact hF he hd
        rw [this] at k
        exact k _ w18 (Own.nil _ _ _ _) (old (old x16 (by omega) hw17) (by omega) hw18)
      · have d17 := d16.setE hw17
        refine St1.mk d17.i3 (by simp) rfl fun w18 hw18 => ?_
        have d18 := d17.setAt hw18
        refine ⟨_, Cell.lst d18.i2 rfl, _, Cell.lst d18.i3 rfl, ?_⟩
        rw [hD] at hd
        have hc : ¬ (f = 0 ∧ a < l.length) := fun hc => by rw [if_pos hc] at hd; simp at hd
        rw [if_neg hc] at hd
        simp only at hd
        rw [hZ he hd (by omega)] at k
        have o18 : OwnR w18.heap w6.heap.size s1 O := Own.ext (Own.ext (own.no ext16) hw17.ext fun i hi h => by have := (own.lt hi).1; omega) hw18.ext fun i hi h => by have := (own.lt hi).1; omega
        exact k _ w18 (o18.mono x6.size) (old (old x16 (by omega) hw17) (by omega) hw18)
  have hN : rNum l 0 0 = if (tk 0 0 l).2.2 ≠ 0 then (0, 0, (tk 0 0 l).2.2) else ((tk 0 0 l).1, 0 + (tk 0 0 l).2.1, 0) := by simp [rNum]
  have hL : decL l = if (tk 0 0 l).2.2 ≠ 0 then ([], (tk 0 0 l).2.2, 0) else decN l (tk 0 0 l).1.toNat true (tk 0 0 l).2.1 0 [] := rfl
  have hrng := tk_rng h8
  have hc : 0 ≤ (rNum l 0 0).1 ∧ (rNum l 0 0).1 ≤ 18446744073709551615 := by rw [hN]; split <;> simp <;> omega
  have hF0 : (rNum l 0 0).2.2 ≠ 0 → (rNum l 0 0).1 = 0 ∧ decL l = ([], (rNum l 0 0).2.2, ((rNum l 0 0).2.1 : Int)) := by
    rw [hN, hL]; split
    · intro _; exact ⟨rfl, rfl⟩
    · intro h; exact absurd rfl h
  have hZ0 : (rNum l 0 0).2.2 = 0 → decN l (rNum l 0 0).1.toNat true (rNum l 0 0).2.1 0 [] = decL l := by
    rw [hN, hL]; split
    · rename_i h; intro h'; exact absurd h' h
    · intro _; simp
  generalize hcc : (rNum l 0 0).1 = c at *
  generalize (rNum l 0 0).2.1 = a0 at *
  generalize (rNum l 0 0).2.2 = f0 at *
  have upd : ∀ {w8 w9 : World} {s1 : Sl} {O : List Run}, OwnR w8.heap w6.heap.size s1 O → Ext No w w8 → Ext (DW b3 b2 rb) w8 w9 → OwnR w9.heap w6.heap.size s1 O ∧ Ext No w w9 := fun o x e =>
    ⟨Own.ext o e fun i hi h => (by have := (o.lt hi).1; rcases h with h | h | h <;> omega), x.trans e fun i hi h => by rcases h with h | h | h <;> omega⟩
  refine ⟨fun s1 w13 => ∃ (O : List Run) (a : Nat) (f atv e : Int), DSt w13.heap b1 b4 b3 b2 rb b s l a f atv e ∧ OwnR w13.heap w6.heap.size s1 O ∧ Ext No w w13 ∧
      (e ≠ 0 → decL l = ([], e, atv)) ∧ (e = 0 → f ≠ 0 → decL l = ([], f, (a : Int))) ∧ (e = 0 → f = 0 → a < l.length → decL l = ([], 5, (a : Int))) ∧ (e = 0 → f = 0 → a = l.length → decL l = (O, 0, 0)), ?_, ?_⟩
  · refine ⟨fun m s1 endv i w8 => ∃ (a j : Nat) (O : List Run) (f atv : Int), i = j ∧ m = c.toNat - j ∧ (j : Int) ≤ c ∧ 0 ≤ endv ∧ endv ≤ 4294967295 ∧ (O.length : Int) ≤ endv ∧ OwnR w8.heap w6.heap.size s1 O ∧ Ext No w w8 ∧ w6.heap.size ≤ w8.heap.size ∧
        DSt w8.heap b1 b4 b3 b2 rb b s l a f atv 0 ∧ (f ≠ 0 → c = 0 ∧ decL l = ([], f, (a : Int))) ∧ (f = 0 → decN l (c.toNat - j) (decide (j = 0)) a endv O = decL l),
      ⟨_, a0, 0, [], f0, 0, rfl, rfl, by omega, by omega, by omega, by simp, Own.nil _ _ _ _, x7, ext7.size, d7, hF0, by simpa using hZ0⟩, ?_⟩
    rintro _ m s1 endv i w8 ⟨a, j, O, f, atv, rfl, rfl, hj, he0, he1, hO, own, x8, z8, d8, hf, hz⟩
    refine If.dec (fun hlt => ?_) (fun hge => ?_)
    · have f00 : f = 0 := Classical.byContradiction fun h => by have := (hf h).1; omega
      subst f00
      have hd := hz rfl
      have hm : c.toNat - j = (c.toNat - (j + 1)) + 1 := by omega
      rw [hm, decN] at hd
      refine Nm.as (iMin_eq _ _) ?_
      have htr := tk_rng (h8.drop a)
      refine decode1_spec d8 ⟨he0, he1⟩ (fun hg w9 d9 ext9 => ?_) (fun hg hc1 w9 d9 ext9 => ?_) (fun hg hc1 w9 d9 ext9 => ?_)
      · obtain ⟨o9, x9⟩ := upd own x8 ext9
        rw [if_pos hg] at hd
        exact If.not (If.no ⟨O, a, _, _, 0, d9, o9, x9, fun h => absurd rfl h, fun _ _ => hd.symm, fun _ h => absurd h hg, fun _ h => absurd h hg⟩)
      · obtain ⟨o9, x9⟩ := upd own x8 ext9
        rw [if_neg (by simp [hg]), if_pos (by
          rcases hc1 with h | h
          · exact .inl ⟨by omega, by simp; omega⟩
          · exact .inr h)] at hd
        exact If.not (If.no ⟨O, _, _, _, 5, d9, o9, x9, fun _ => hd.symm, fun h => by omega, fun h => by omega, fun h => by omega⟩)
      · obtain ⟨o9, x9⟩ := upd own x8 ext9
        rw [if_neg (by simp [hg]), if_neg (by
          rintro (⟨h1, h2⟩ | h)
          · exact hc1 (.inl (by simp at h2; omega))
          · exact hc1 (.inr h))] at hd
        refine If.not (If.yes (Ar.u64 (by omega) ?_))
        generalize (tk 0 0 (l.drop a)).1 = n at *
        generalize a + (tk 0 0 (l.drop a)).2.1 = a9 at *
        have ht9 := tk_rng (h8.drop a9)
        refine decode1_spec d9 ⟨by omega, by omega⟩ (fun hg w10 d10 ext10 => ?_) (fun hg hc2 w10 d10 ext10 => ?_) (fun hg hc2 w10 d10 ext10 => ?_)
        · obtain ⟨o10, x10⟩ := upd o9 x9 ext10
          rw [if_pos hg] at hd
          exact If.not (If.no ⟨O, a9, _, _, 0, d10, o10, x10, fun h => absurd rfl h, fun _ _ => hd.symm, fun _ h => absurd h hg, fun _ h => absurd h hg⟩)
        · obtain ⟨o10, x10⟩ := upd o9 x9 ext10
          rw [if_neg (by simp [hg]), if_pos (by omega)] at hd
          exact If.not (If.no ⟨O, _, _, _, 5, d10, o10, x10, fun _ => hd.symm, fun h => by omega, fun h => by omega, fun h => by omega⟩)
        · obtain ⟨o10, x10⟩ := upd o9 x9 ext10
          rw [if_neg (by simp [hg]), if_neg (by omega)] at hd
          generalize (tk 0 0 (l.drop a9)).1 = n2 at *
          generalize a9 + (tk 0 0 (l.drop a9)).2.1 = a10 at *
          have z9 := ext9.size
          have z10 := ext10.size
          refine If.not (If.yes (Ar.u64 (by omega) (Ar.u32 (by omega) (Ar.u64 (by omega) (Ar.u64 (by omega) (Ar.u32 (by omega) (appR (r := (endv + n, endv + n + n2)) o10 (by omega) (by omega) fun s11 w11 o11 ext11 => ?_)))))))
          have nb : ∀ i, i < w6.heap.size → ¬ s1.blk = some i := fun i hi h => by have := (o10.lt h).1; omega
          have d11 : DSt w11.heap b1 b4 b3 b2 rb b s l a10 0 a9 0 := d10.other ext11 (nb _ (by omega)) (nb _ (by omega)) (nb _ (by omega)) (nb _ (by omega)) (nb _ (by omega)) fun i hi => nb _ (by have := hs i hi; omega)
          have z11 := ext11.size
          refine Ar.u64 (by omega) (Ar.u64 (by omega) (Ar.u64 (by omega) ⟨_, ?_, a10, j + 1, O ++ [(endv + n, endv + n + n2)], 0, _, by omega, rfl, by omega, by omega, by omega, by simp; omega, o11, x10.trans ext11 fun i hi h => ?_, by omega, d11, fun h => absurd rfl h, fun _ => ?_⟩))
          · omega
          · have := (o10.lt h).1; have := x6.size; omega
          · have e1 : endv + (n + n2) = endv + n + n2 := by omega
            rw [e1]; simpa using hd
    · refine ⟨O, a, f, atv, 0, d8, own, x8, fun h => absurd rfl h, fun _ h => (hf h).2, fun _ h hlt => ?_, fun _ h he => ?_⟩
      · have hd := hz h
        rw [show c.toNat - j = 0 by omega, decN, if_pos hlt] at hd
        exact hd.symm
      · have hd := hz h
        rw [show c.toNat - j = 0 by omega, decN, if_neg (by omega)] at hd
        exact hd.symm
  · rintro _ s1 w13 ⟨O, a, f, atv, e, d, own, x, h1, h2, h3, h4⟩
    exact fin s1 O a f atv e w13 d own x h1 h2 h3 h4
theorem decN_len {l : List Int} (h8 : B8 l) : ∀ (n : Nat) (first : Bool) (a : Nat) (e : Int) (O : List Run), (O.length : Int) ≤ e → e ≤ 4294967295 → (decN l n first a e O).1.length ≤ 4294967295
  | 0, first, a, e, O, h1, h2 => by unfold decN; split <;> simp; omega
  | n + 1, first, a, e, O, h1, h2 => by
    have t1 := tk_rng (h8.drop a)
    have t2 := tk_rng (h8.drop (a + (tk 0 0 (l.drop a)).2.1))
    unfold decN
    split
    · simp
    · split
      · simp
      · split
        · simp
        · split
          · simp
          · exact decN_len h8 n _ _ _ _ (by simp; omega) (by omega)
theorem decL_len {l : List Int} (h8 : B8 l) : (decL l).1.length ≤ 4294967295 := by
  unfold decL; split
  · simp
  · exact decN_len h8 _ _ _ _ _ (by simp) (by omega)
theorem runsDecodes_spec {b : Sl} {w : World} {l : List Int} (hb : RdB w.heap b l) (h8 : B8 l) (hlen : l.length ≤ 140737488355328) : C_law11_RunsDecodes b w (Tr w) := by
  apply S_law11_RunsDecodes
  refine copy_spec hb hlen fun s1 w1 o1 e1 => decode_spec o1.rd h8 hlen fun s2 w2 o2 e2 => ?_
  have x2 := e1.no e2
  refine refDecode_spec (hb.no x2) h8 (by omega) fun s3 w3 o3 e3 => ?_
  have hl := decL_len h8
  refine refSame_spec (o2.no e3).rd o3.rd (by omega) fun w4 e4 => If.cases (fun _ => If.beq (fun _ => If.beq (fun _ => known_tr ((x2.no e3).no e4)) (fun h => absurd rfl h)) (fun h => absurd rfl h)) (fun h => by simp at h)
end Go.Proofs.Ytomlobgpeobnfaa
