/- Layer 9: calls as the laws have them, opened; what is too much; the law RegsRise. -/
import Derived.Test.YtdgebnphgfbegaaRegsC
import Derived.Test.YtdgebnphgfbegaaDiskH
import Derived.Test.YtdgebnphgfbegaaFrameT
namespace Go.V
theorem Ar.any {k : IntKind} {e : Int} {K : Int → Prop} (h : ∀ z, K z) : Ar k e K := fun z _ => h z
end Go.V
namespace Go.Proofs.Ytdgebnphgfbegaa
open Go.V Go.V.Dk
/-- A call of a device, with sizes. -/
structure OpV.okS (h : Array Obj) (o : OpV) : Prop extends OpV.ok h o where
  lb : o.b.len ≤ 140737488351232
  lm : o.masks.len ≤ 140737488351232
structure ROp where
  kind : Int
  n : Int
  size : Int
  d : OpV
def ROp.c (o : ROp) : List Value := [.int .i64 o.kind, .int .u64 o.n, .int .i64 o.size, .int .i64 o.d.kind, .int .i64 o.d.i, .int .i64 o.d.at_, o.d.b.v, o.d.masks.v]
structure ROp.ok (h : Array Obj) (o : ROp) : Prop where
  k : I64 o.kind
  n : 0 ≤ o.n ∧ o.n ≤ 18446744073709551615
  s : I64 o.size
  d : o.d.okS h
section
variable {H : Type} {enc : TypeId × Value → H} {W : World}
theorem u64_wf {n : Int} (h : (Lit.int .u64 n).wf = true) : 0 ≤ n ∧ n ≤ 18446744073709551615 := by simpa [Lit.wf, IntKind.min, IntKind.max, IntKind.signed, IntKind.bits] using h
theorem op_tyS {es : List Value} (hl : es.length = 5) (hr : TyRS enc Try.prog W T_donjonlaw08_Op es) : ∃ o : OpV, es = o.c ∧ o.okS W.heap := by
  obtain ⟨v0, g0, t0⟩ := hr.fld 0 (o := 0) (n := 5) (by kernel_rfl) (by kernel_rfl) (by kernel_rfl) (by kernel_rfl) hl (by decide)
  obtain ⟨v1, g1, t1⟩ := hr.fld 1 (o := 1) (n := 5) (by kernel_rfl) (by kernel_rfl) (by kernel_rfl) (by kernel_rfl) hl (by decide)
  obtain ⟨v2, g2, t2⟩ := hr.fld 2 (o := 2) (n := 5) (by kernel_rfl) (by kernel_rfl) (by kernel_rfl) (by kernel_rfl) hl (by decide)
  obtain ⟨v3, g3, t3⟩ := hr.fld 3 (o := 3) (n := 5) (by kernel_rfl) (by kernel_rfl) (by kernel_rfl) (by kernel_rfl) hl (by decide)
  obtain ⟨v4, g4, t4⟩ := hr.fld 4 (o := 4) (n := 5) (by kernel_rfl) (by kernel_rfl) (by kernel_rfl) (by kernel_rfl) hl (by decide)
  obtain ⟨n0, e0, b0⟩ := t0.tyR.int (k := .i64) (by kernel_rfl)
  obtain ⟨n1, e1, b1⟩ := t1.tyR.int (k := .i64) (by kernel_rfl)
  obtain ⟨n2, e2, b2⟩ := t2.tyR.int (k := .i64) (by kernel_rfl)
  obtain ⟨s3, l3, e3, r3, h3, z3⟩ := TyRS.bytes (e := T_uint8) (by kernel_rfl) (by kernel_rfl) (by kernel_rfl) (by kernel_rfl) t3
  obtain ⟨s4, l4, e4, r4, h4, z4⟩ := TyRS.bytes (e := T_uint8) (by kernel_rfl) (by kernel_rfl) (by kernel_rfl) (by kernel_rfl) t4
  cases e0; cases e1; cases e2; cases e3; cases e4
  refine ⟨⟨n0, n1, n2, s3, s4, l3, l4⟩, ?_, ⟨i64_wf b0, i64_wf b1, i64_wf b2, r3, h3, r4, h4⟩, z3, z4⟩
  match es, hl, g0, g1, g2, g3, g4 with
  | [a, b, c, d, e], _, g0, g1, g2, g3, g4 => simp at g0 g1 g2 g3 g4; simp [OpV.c, g0, g1, g2, g3, g4]
theorem opsS_open {s : Sl} {ess : List (List Value)} (h : ElemsS enc Try.prog W T_donjonlaw08_Op s ess) : ∃ l : List OpV, l.length = s.len ∧ Rd W.heap s 5 (l.flatMap OpV.c) ∧ ∀ o ∈ l, o.okS W.heap :=
  h.list OpV.c (OpV.okS W.heap) (fun es hl hr => op_tyS (by rw [hl]; kernel_rfl) hr) (sz := 5) (by kernel_rfl) (by decide) (fun x _ v hv => by simp [OpV.c] at hv; rcases hv with rfl | rfl | rfl | rfl | rfl <;> rfl)
theorem rop_tyS {es : List Value} (hl : es.length = 8) (hr : TyRS enc Try.prog W T_donjonlaw09_Op es) : ∃ o : ROp, es = o.c ∧ o.ok W.heap := by
  obtain ⟨v0, g0, t0⟩ := hr.fld 0 (o := 0) (n := 8) (by kernel_rfl) (by kernel_rfl) (by kernel_rfl) (by kernel_rfl) hl (by decide)
  obtain ⟨v1, g1, t1⟩ := hr.fld 1 (o := 1) (n := 8) (by kernel_rfl) (by kernel_rfl) (by kernel_rfl) (by kernel_rfl) hl (by decide)
  obtain ⟨v2, g2, t2⟩ := hr.fld 2 (o := 2) (n := 8) (by kernel_rfl) (by kernel_rfl) (by kernel_rfl) (by kernel_rfl) hl (by decide)
  have t3 := hr.fldN 3 (o := 3) (m := 5) (by kernel_rfl) (by kernel_rfl) (by kernel_rfl) (by kernel_rfl)
  obtain ⟨n0, e0, b0⟩ := t0.tyR.int (k := .i64) (by kernel_rfl)
  obtain ⟨n1, e1, b1⟩ := t1.tyR.int (k := .u64) (by kernel_rfl)
  obtain ⟨n2, e2, b2⟩ := t2.tyR.int (k := .i64) (by kernel_rfl)
  obtain ⟨o, eo, ok⟩ := op_tyS (by rw [List.length_take, List.length_drop, hl]; rfl) t3
  cases e0; cases e1; cases e2
  refine ⟨⟨n0, n1, n2, o⟩, ?_, i64_wf b0, u64_wf b1, i64_wf b2, ok⟩
  match es, hl, g0, g1, g2, eo with
  | [a, b, c, d, e, f, g, h], _, g0, g1, g2, eo => simp [OpV.c] at g0 g1 g2 eo; simp [ROp.c, g0, g1, g2, eo]
theorem rops_open {s : Sl} {ess : List (List Value)} (h : ElemsS enc Try.prog W T_donjonlaw09_Op s ess) : ∃ l : List ROp, l.length = s.len ∧ Rd W.heap s 8 (l.flatMap ROp.c) ∧ ∀ o ∈ l, o.ok W.heap :=
  h.list ROp.c (ROp.ok W.heap) (fun es hl hr => rop_tyS (by rw [hl]; kernel_rfl) hr) (sz := 8) (by kernel_rfl) (by decide) (fun x _ v hv => by simp [ROp.c] at hv; rcases hv with rfl | rfl | rfl | rfl | rfl | rfl | rfl | rfl <;> rfl)
end
section
variable {w : World}
/-- What is too much: the answer is one of the two; if it is no, there is little. -/
theorem heavy9_spec {draws l : Sl} {L : List (List Int)} {O : List ROp} {K : Bool → World → Prop} (hL : RdL w.heap draws L) (hLl : ∀ x ∈ L, x.length ≤ 140737488351232) (hO : Rd w.heap l 8 (O.flatMap ROp.c)) (hlen : O.length = l.len) (ok : ∀ o ∈ O, o.d.b.len ≤ 140737488351232 ∧ o.d.masks.len ≤ 140737488351232)
    (kt : ∀ w', Ext No w w' → K true w') (k : ∀ w', Ext No w w' → L.length ≤ 1000 → O.length ≤ 4000 → K false w') : C_law09_heavy draws l w K := by
  apply S_law09_heavy
  have hdl := hL.len
  refine ⟨fun m n t w1 => ∃ j : Nat, t = j ∧ m = L.length - j ∧ j ≤ L.length ∧ w1 = w ∧ (j : Int) ≤ n ∧ n ≤ 1000, ⟨_, 0, rfl, rfl, Nat.zero_le _, rfl, by omega, by omega⟩, ?_⟩
  rintro _ m n t w1 ⟨j, rfl, rfl, hj, rfl, h0, h1⟩
  refine If.dec (fun hlt => ?_) (fun hge => ?_)
  · refine hL.ix (by omega) hlt fun b o v hi hc rd => ⟨v, hc, by decide, ?_⟩
    have hv := RdB.len rd
    have hb := hLl _ (List.getElem_mem hi)
    have hd : Int.tdiv (v.len : Int) 64 = ((v.len / 64 : Nat) : Int) := by
      rw [Int.tdiv_eq_ediv_of_nonneg (by omega)]; omega
    rw [hd]
    refine Ar.i64 (by omega) (Ar.i64 (by omega) (Ar.i64 (by omega) (If.dec (fun _ => kt _ (Ext.refl _ _)) fun hn => Ar.i64 (by omega) ⟨L.length - (j + 1), by omega, j + 1, by omega, rfl, by omega, rfl, by omega, by omega⟩)))
  · refine ⟨fun m n t w2 => ∃ j : Nat, t = j ∧ m = O.length - j ∧ j ≤ O.length ∧ Ext No w1 w2 ∧ (j : Int) ≤ n ∧ n ≤ 4000, ⟨_, 0, rfl, rfl, Nat.zero_le _, Ext.refl _ _, by omega, by omega⟩, ?_⟩
    rintro _ m2 n2 t2 w2 ⟨i, rfl, rfl, hi, x2, h2, h3⟩
    refine If.dec (fun hlt => ?_) (fun hge2 => k w2 x2 (by omega) (by omega))
    have hi' : i < O.length := by omega
    refine ⟨Ext No w2, (Ext.refl _ _).drew, Ix.elem (hO.no x2) (fun o _ => rfl) (by decide) (by omega) hlt fun b o hi2 hb hc => ?_⟩
    have hok := ok _ (List.getElem_mem hi2)
    generalize O[((i : Int)).toNat] = op at hc hok
    have hd : Int.tdiv (op.d.b.len : Int) 64 = ((op.d.b.len / 64 : Nat) : Int) := by
      rw [Int.tdiv_eq_ediv_of_nonneg (by omega)]; omega
    refine ⟨op.d.b, Held.cell (hc 6 _ rfl), by decide, ?_⟩
    rw [hd]
    refine Ar.i64 (by omega) (Ar.i64 (by omega) (Ix.elem (hO.no x2) (fun o _ => rfl) (by decide) (by omega) hlt fun b' o' hi2' hb' hc' => ?_))
    have hok' := ok _ (List.getElem_mem hi2')
    generalize O[((i : Int)).toNat] = op' at hc' hok'
    refine ⟨op'.d.masks, Held.cell (hc' 7 _ rfl), ?_⟩
    exact Ar.i64 (by omega) (Ar.i64 (by omega) (If.dec (fun _ => kt _ x2.drew) fun hn => Ar.i64 (by omega) ⟨O.length - (i + 1), by omega, i + 1, by omega, rfl, by omega, x2.drew, by omega, by omega⟩))
/-- How the law stands behind j calls. -/
structure RSt (w0 : World) (pb : Nat) (g : Rgs) (limit top counts : Int) (j : Nat) (w : World) (d : Dev) (D : DS) : Prop where
  b : d.b = pb
  fp : ∀ i, d.fp i → w0.heap.size ≤ i
  gp : ∀ i, g.fp i → w0.heap.size ≤ i
  dis : ∀ i, g.fp i → ¬ d.fp i
  r : DiskR w.heap d D
  q : RegsR w.heap g ⟨some ⟨pb, 0, none⟩, limit, top, counts, []⟩
  st : 0 ≤ D.steps ∧ D.steps ≤ j
  wt : D.waits = []
  tp : 0 ≤ top ∧ top ≤ limit
  ct : 0 ≤ counts ∧ counts ≤ top
  x : Ext No w0 w
theorem steps_le (D : DS) : D.steps ≤ (stepD D).2.steps ∧ (stepD D).2.steps ≤ D.steps + 1 := by
  unfold stepD; split
  · simp only; omega
  · split <;> simp only <;> omega
theorem RdL.empty (h : Array Obj) : RdL h ⟨none, 0, 0⟩ [] := ⟨⟨[], Rd.nil _ _, rfl, fun j h1 => by simp at h1⟩, fun l hl => by simp at hl⟩
set_option maxHeartbeats 1000000 in
theorem regsRise_spec {limit : Int} {l : Sl} {O : List ROp} (hl : 0 ≤ limit ∧ limit ≤ 18446744073709551615) (hO : Rd w.heap l 8 (O.flatMap ROp.c)) (hlen : O.length = l.len) (ok : ∀ o ∈ O, o.ok w.heap) : C_law09_RegsRise limit l w fun b w' => b = true ∧ Ext No w w' := by
  apply S_law09_RegsRise
  have kn : ∀ {w1 : World}, Ext No w w1 → C_law09_known w1 fun r w' => r = true ∧ Ext No w w' := fun x => known9_spec fun w' x' => ⟨rfl, x.no x'⟩
  refine heavy9_spec (RdL.empty _) (by simp) hO hlen (fun o ho => ⟨(ok o ho).d.lb, (ok o ho).d.lm⟩) (fun w' x => If.yes (kn x)) fun w1 x1 _ h4 => If.no ?_
  refine diskNew_spec (fun h => absurd (by omega) h) fun _ d w2 r2 fd x2 => ?_
  rw [show (8 : Int).toNat = 8 from rfl] at r2
  refine regsNew_spec (p := ⟨d.b, 0, none⟩) (RdL.empty _) (by simp) (by simp) fun g w3 r3 fg x3 => ?_
  have z2 := x2.size
  have z1 := x1.size
  refine ⟨fun w' => w' = w3, If.no (If.no (If.bne (fun h => absurd rfl h) fun _ => If.bne (fun h => absurd rfl h) fun _ => rfl)), ?_⟩
  rintro _ w3 rfl
  refine ⟨fun m top counts t w6 => ∃ (j : Nat) (d' : Dev) (D : DS), t = j ∧ m = O.length - j ∧ j ≤ O.length ∧ RSt w d.b g limit top counts j w6 d' D,
    ⟨_, 0, d, newD 8, rfl, rfl, Nat.zero_le _, rfl, fun i hi => by have := fd i hi; omega, fun i hi => by have := fg i hi; omega, fun i hi h => by have := fg i hi; have := r2.lt h; omega, r2.no x3, r3, by simp [newD], rfl, by omega, by omega, (x1.no x2).no x3⟩, ?_⟩
  rintro _ m top counts t w6 ⟨j, d6, D, rfl, rfl, hj, f⟩
  refine If.dec (fun hlt => ?_) (fun hge => kn f.x)
  have hj' : j < O.length := by omega
  have hp : d.p = d6.p := by simp [Dev.p, f.b]
  have hdev : (⟨some ⟨d.b, 0, none⟩, limit, top, counts, []⟩ : RS).dev = d6.p := by simp [Dev.p, f.b]
  have hst := f.st
  have htop := f.tp
  have hct := f.ct
  have hs64 : 0 ≤ D.steps ∧ D.steps < 18446744073709551615 := by omega
  have hsl := steps_le D
  have hsame := (step_same D).2.2
  refine ⟨fun top' counts' w12 => ∃ (d' : Dev) (D' : DS), RSt w d.b g limit top' counts' (j + 1) w12 d' D', ?_, ?_⟩
  · have key : ∀ {w' : World} {K : Addr → Prop}, Ext No w w' → (∀ b o, (∀ i v, (O[j].c)[i]? = some v → Cell w' ⟨b, o + i, none⟩ v) → K ⟨b, o, none⟩) → Ix l.a l.len (j : Int) 8 K := fun x k =>
      Ix.elem (hO.no x) (fun o _ => rfl) (by decide) (by omega) hlt fun b o hi2 hb hc => k b o (by simpa using hc)
    have hok := ok _ (List.getElem_mem hj')
    generalize O[j] = op at key hok
    have own : ∀ {w' : World}, Ext (fun i => i = g.rb ∨ i = d6.b) w6 w' → Ext No w w' := fun x => f.x.trans x fun i hi h => by
      rcases h with h | h
      · have := f.gp i (.inl h); omega
      · have := f.fp i (.inl h); omega
    refine key f.x fun b o hc => ⟨op.kind, hc 0 _ rfl, If.beq (fun _ => ?_) (fun _ => If.beq (fun _ => ?_) (fun _ => If.beq (fun _ => ?_) (fun _ => If.beq (fun _ => ?_) (fun _ => ?_))))⟩
    · refine regsReserve_spec f.q f.r hdev f.dis hs64 (by simp only; omega) fun w7 q7 r7 x7 => ?_
      by_cases hr : top ≥ limit
      · have e : reserveR ⟨some ⟨d.b, 0, none⟩, limit, top, counts, []⟩ D = (0, 90, ⟨some ⟨d.b, 0, none⟩, limit, top, counts, []⟩, D) := by unfold reserveR; rw [if_pos hr]
        rw [e] at q7 r7 ⊢
        exact If.beq (fun h => by simp at h) fun _ => ⟨d6, D, f.b, f.fp, f.gp, f.dis, r7, q7, by omega, f.wt, f.tp, f.ct, own x7⟩
      · by_cases h0 : (stepD D).1 = 0
        · have e : reserveR ⟨some ⟨d.b, 0, none⟩, limit, top, counts, []⟩ D = (top + 1, 0, ⟨some ⟨d.b, 0, none⟩, limit, top + 1, counts, []⟩, (stepD D).2) := by unfold reserveR; rw [if_neg hr, if_pos h0]
          rw [e] at q7 r7 ⊢
          refine If.beq (fun _ => Ar.u64 (by omega) (If.bne (fun h => absurd rfl h) fun _ => If.dec (fun h => by simp only at h; omega) fun _ => ?_)) (fun h => absurd rfl h)
          exact ⟨d6, _, f.b, f.fp, f.gp, f.dis, r7, q7, by simp only; omega, by simp only; rw [hsame]; exact f.wt, by omega, by omega, own x7⟩
        · have e : reserveR ⟨some ⟨d.b, 0, none⟩, limit, top, counts, []⟩ D = (0, (stepD D).1, ⟨some ⟨d.b, 0, none⟩, limit, top, counts, []⟩, (stepD D).2) := by unfold reserveR; rw [if_neg hr, if_neg h0]
          rw [e] at q7 r7 ⊢
          exact If.beq (fun h => absurd h h0) fun _ => ⟨d6, _, f.b, f.fp, f.gp, f.dis, r7, q7, by simp only; omega, by simp only; rw [hsame]; exact f.wt, f.tp, f.ct, own x7⟩
    · refine key f.x fun b1 o1 hc1 => ⟨op.n, hc1 1 _ rfl, regsAdvance_spec f.q f.r hdev f.dis hs64 fun w7 q7 r7 x7 => ?_⟩
      by_cases hr : op.n ≤ counts ∨ op.n > top
      · have e : advanceR ⟨some ⟨d.b, 0, none⟩, limit, top, counts, []⟩ D op.n = (2, ⟨some ⟨d.b, 0, none⟩, limit, top, counts, []⟩, D) := by unfold advanceR; rw [if_pos hr]
        rw [e] at q7 r7 ⊢
        exact If.beq (fun h => by simp at h) fun _ => ⟨d6, D, f.b, f.fp, f.gp, f.dis, r7, q7, by omega, f.wt, f.tp, f.ct, own x7⟩
      · by_cases h0 : (stepD D).1 = 0
        · have e : advanceR ⟨some ⟨d.b, 0, none⟩, limit, top, counts, []⟩ D op.n = (0, ⟨some ⟨d.b, 0, none⟩, limit, top, op.n, []⟩, (stepD D).2) := by unfold advanceR; rw [if_neg hr, if_pos h0]
          rw [e] at q7 r7 ⊢
          refine If.beq (fun _ => key (own x7) fun b2 o2 hc2 => ⟨op.n, hc2 1 _ rfl, If.dec (fun h => by omega) fun _ => key (own x7) fun b3 o3 hc3 => ⟨op.n, hc3 1 _ rfl, If.dec (fun h => by omega) fun _ => key (own x7) fun b4 o4 hc4 => ⟨op.n, hc4 1 _ rfl, ?_⟩⟩⟩) (fun h => absurd rfl h)
          exact ⟨d6, _, f.b, f.fp, f.gp, f.dis, r7, q7, by simp only; omega, by simp only; rw [hsame]; exact f.wt, by omega, by omega, own x7⟩
        · have e : advanceR ⟨some ⟨d.b, 0, none⟩, limit, top, counts, []⟩ D op.n = ((stepD D).1, ⟨some ⟨d.b, 0, none⟩, limit, top, counts, []⟩, (stepD D).2) := by unfold advanceR; rw [if_neg hr, if_neg h0]
          rw [e] at q7 r7 ⊢
          exact If.beq (fun h => absurd h h0) fun _ => ⟨d6, _, f.b, f.fp, f.gp, f.dis, r7, q7, by simp only; omega, by simp only; rw [hsame]; exact f.wt, f.tp, f.ct, own x7⟩
    · refine key f.x fun b1 o1 hc1 => ⟨op.size, hc1 2 _ rfl, ?_⟩
      rw [hp]
      refine diskFail_spec f.r hok.s.2 fun w7 r7 x7 => ⟨d6, _, f.b, f.fp, f.gp, f.dis, r7, f.q.ext x7 fun i hi h => f.dis i hi (.inl h), by simp only; omega, f.wt, f.tp, f.ct, own (x7.mono fun i _ h => .inr h)⟩
    · refine key f.x fun b1 o1 hc1 => ⟨op.size, hc1 2 _ rfl, ?_⟩
      rw [hp]
      refine diskCut_spec f.r hok.s.2 fun w7 r7 x7 => ⟨d6, _, f.b, f.fp, f.gp, f.dis, r7, f.q.ext x7 fun i hi h => f.dis i hi (.inl h), by simp only; omega, f.wt, f.tp, f.ct, own (x7.mono fun i _ h => .inr h)⟩
    · refine key f.x fun b1 o1 hc1 => ⟨op.d.masks, hc1 7 _ rfl, ?_⟩
      rw [hp]
      refine diskCrash_spec f.r (hok.d.rm.no f.x) hok.d.m8 (fun hne i hi h => ?_) (by rw [f.wt]; simp) fun d' w7 r7 g7 x7 => If.bne (fun h => absurd rfl h) fun _ => ?_
      · have := Rd.lt hok.d.rm (by simpa using hne) hi
        have := f.fp i h
        omega
      · have xx := f.x.size
        refine ⟨d', _, by rw [g7.b]; exact f.b, fun i hi => ?_, f.gp, fun i hi h => ?_, r7, f.q.ext x7 fun i hi h => f.dis i hi h, by simp only [crashD]; omega, rfl, f.tp, f.ct, f.x.trans x7 fun i hi h => by have := f.fp i h; omega⟩
        · rcases g7.fp i hi with h | h
          · exact f.fp i h
          · omega
        · rcases g7.fp i h with h | h
          · exact f.dis i hi h
          · have := f.q.lt hi; omega
  · rintro _ top' counts' w12 ⟨d', D', f'⟩
    refine regsReserved_spec f'.q (If.bne (fun h => absurd rfl h) fun _ => regsCommitted_spec f'.q (If.bne (fun h => absurd rfl h) fun _ => Ar.i64 (by omega) ⟨_, ?_, j + 1, d', D', by omega, rfl, by omega, f'⟩))
    omega
end
end Go.Proofs.Ytdgebnphgfbegaa
