/- Layer 8: the law DiskPlays. -/
import Derived.Test.YtdgebnphgfbegaaDiskP
namespace Go.Proofs.Ytdgebnphgfbegaa
open Go.V Go.V.Dk
/-- How the law stands behind j calls. -/
structure PSt (w0 : World) (rb n : Nat) (j : Nat) (w : World) (d : Dev) (T : Tg) (r : Dev) (D : DS) : Prop where
  p : Pair w.heap d T r D
  rb : r.b = rb
  fd : ∀ i, d.fp i → w0.heap.size ≤ i
  ft : ∀ i, T i ≠ none → w0.heap.size ≤ i
  x : Ext No w0 w
  n : D.now.length = n
  st : 0 ≤ D.steps ∧ D.steps ≤ j
  wt : D.waits.length ≤ j
section
variable {w : World}
theorem PSt.no {w0 w' : World} {rb n j : Nat} {d : Dev} {T : Tg} {r : Dev} {D : DS} (f : PSt w0 rb n j w d T r D) (x : Ext No w w') : PSt w0 rb n j w' d T r D := ⟨f.p.no x, f.rb, f.fd, f.ft, f.x.no x, f.n, f.st, f.wt⟩
theorem PSt.next {w0 w' : World} {rb n j : Nat} {d : Dev} {T : Tg} {r : Dev} {D : DS} {d' : Dev} {T' : Tg} {r' : Dev} {D' : DS} (f : PSt w0 rb n j w d T r D) (x : Next w d T r D w' d' T' r' D') : PSt w0 rb n (j + 1) w' d' T' r' D' := by
  have z := f.x.size
  have h1 := f.st
  have h2 := f.wt
  have h3 := x.l.st
  have h4 := x.l.wt
  refine ⟨x.p, x.rb.trans f.rb, fun i hi => ?_, fun i hi => ?_, f.x.trans x.x fun i hi h => ?_, x.l.n.trans f.n, by omega, by omega⟩
  · rcases x.gd i hi with h | h
    · exact f.fd i h
    · omega
  · rcases x.gt i hi with h | h
    · exact f.ft i h
    · omega
  · rcases h with h | h
    · have := f.fd i h; omega
    · have := f.ft i h; omega
set_option maxHeartbeats 1000000 in
theorem diskPlays_spec {blocks : Int} {l : Sl} {O : List OpV} (hO : Rd w.heap l 5 (O.flatMap OpV.c)) (hlen : O.length = l.len) (ok : ∀ o ∈ O, o.okS w.heap) : C_law08_DiskPlays blocks l w fun b w' => b = true ∧ Ext No w w' := by
  apply S_law08_DiskPlays
  have kn : ∀ {w1 : World}, Ext No w w1 → C_law08_known w1 fun r w' => r = true ∧ Ext No w w' := fun x => known8_spec fun w' x' => ⟨rfl, x.no x'⟩
  refine ⟨fun w7 => Ext No w w7 ∧ O.length ≤ 4000 ∧ (8 ≤ blocks ∧ blocks ≤ 4096 → blocks ≤ 64), ?_, ?_⟩
  · have hv : ∀ {hb : 8 ≤ blocks ∧ blocks ≤ 4096 → blocks ≤ 64}, C_law08_heavy l w fun r_2 w3 => If r_2 (C_law08_known w3 fun r_3 w4 => r_3 = true ∧ Ext No w w4) (Ext No w w3 ∧ O.length ≤ 4000 ∧ (8 ≤ blocks ∧ blocks ≤ 4096 → blocks ≤ 64)) := fun {hb} =>
      heavy8_spec hO hlen (fun o ho => ⟨(ok o ho).lb, (ok o ho).lm⟩) (fun w' x => If.yes (kn x)) fun w' x h => If.no ⟨x, h, hb⟩
    refine may_spec ?_
    by_cases hm : 8 ≤ blocks ∧ blocks ≤ 4096
    · rw [decide_eq_true hm]
      exact If.yes (If.dec (fun _ => kn (Ext.refl _ _)) fun h => hv (hb := fun _ => by omega))
    · rw [decide_eq_false hm]
      exact If.no (hv (hb := fun h => absurd h hm))
  rintro _ w7 ⟨x7, hO4, h64⟩
  refine diskNew_spec (fun hno => may_spec ?_) fun hm d w8 q8 fd8 x8 => may_spec ?_
  · rw [decide_eq_false hno]
    exact If.not (If.no (If.yes (If.beq (fun _ => kn x7) fun h => absurd rfl h)))
  rw [decide_eq_true hm]
  refine If.not (If.yes ⟨fun w' => w' = w8, If.no (If.bne (fun h => absurd rfl h) fun _ => rfl), ?_⟩)
  rintro _ w8 rfl
  refine refNew_spec hm fun T r w9 r9 ft9 x9 => ?_
  have z7 := x7.size
  have z8 := x8.size
  have p9 : PSt w r.b blocks.toNat 0 w9 d T r (newD blocks.toNat) :=
    ⟨⟨q8.no x9, r9, fun i hi => Classical.byContradiction fun h => by have := ft9 i h; have := q8.lt hi; omega⟩, rfl, fun i hi => by have := fd8 i hi; omega, fun i hi => by have := ft9 i hi; omega, (x7.no x8).no x9, by simp [newD], by simp [newD], by simp [newD]⟩
  refine ⟨fun m dp t w13 => ∃ (j : Nat) (d' : Dev) (T' : Tg) (r' : Dev) (D : DS), dp = d'.p ∧ t = j ∧ m = O.length - j ∧ j ≤ O.length ∧ PSt w r.b blocks.toNat j w13 d' T' r' D, ⟨_, 0, d, T, r, _, rfl, rfl, rfl, Nat.zero_le _, p9⟩, ?_⟩
  rintro _ m _ t w13 ⟨j, d1, T1, r1, D, rfl, rfl, rfl, hj, f⟩
  have hp : r.p = r1.p := by simp [Dev.p, f.rb]
  have hst := f.st
  have hwt := f.wt
  refine If.dec (fun hlt => ?_) (fun hge => ?_)
  · have hj' : j < O.length := by omega
    refine Ix.elem (hO.no f.x) (fun o _ => rfl) (by decide) (by omega) hlt fun b o hi hb hc => ?_
    have hok := ok _ (List.getElem_mem hi)
    generalize O[((j : Int)).toNat] = op at hc hok
    refine ⟨op.kind, hc 0 _ rfl, op.i, hc 1 _ rfl, op.at_, hc 2 _ rfl, op.b, hc 3 _ rfl, op.masks, hc 4 _ rfl, ?_⟩
    rw [hp]
    have far : ∀ {s : Sl} {bs : List Int}, RdB w.heap s bs → bs ≠ [] → ∀ i, s.blk = some i → ¬ d1.fp i ∧ T1 i = none := fun rd hne i hi => by
      have h1 := Rd.lt rd (by simpa using hne) hi
      exact ⟨fun h => by have := f.fd i h; omega, Classical.byContradiction fun h => by have := f.ft i h; omega⟩
    refine does_spec f.p (hok.no f.x) (far hok.rb) (far hok.rm) (by omega) (by omega) fun d2 T2 r2 D2 w14 n2 _ => ?_
    have f2 := f.next n2
    have hp2 : r1.p = r2.p := by simp [Dev.p, n2.rb]
    rw [hp2]
    have q2 : DiskR (drewW w14).heap d2 D2 := f2.p.q
    have hn2 := f2.n
    have lw := f2.p.r.waits.len
    have es : (Ext No w14) (drewW w14) := (Ext.refl _ _).drew
    refine ⟨Ext No w14, es, If.no (Nn.mk ⟨_, Held.cell (Cell.lst f2.p.r.blk rfl), diskSteps_spec q2 ⟨es, If.bne (fun h => absurd rfl h) fun _ => Nn.mk ⟨_, Held.cell (Cell.lst f2.p.r.blk rfl), diskWaiting_spec q2 ⟨es, ?_⟩⟩⟩⟩)⟩
    refine If.bne (fun h => absurd (by rw [lw]) h) fun _ => Nn.mk ⟨_, Held.cell (Cell.lst f2.p.r.blk rfl), diskDown_spec q2 ⟨es, ?_⟩⟩
    have ed : (D2.down == D2.down) = true := by simp
    rw [ed]
    refine If.not (If.yes (diskBlocks_spec q2 ⟨es, If.bne (fun h => absurd (by omega) h) fun _ => Ar.i64 (by omega) ⟨_, ?_, j + 1, d2, T2, r2, D2, rfl, by omega, rfl, by omega, f2.no es⟩⟩))
    omega
  · rw [hp]
    have lf := f.p.r.firm.len
    have hnf := f.p.r.wf.n
    have hhi := f.p.r.wf.hi
    refine Nn.mk ⟨r1.sf, Cell.lst f.p.r.blk rfl, ?_⟩
    refine ⟨fun m t w19 => ∃ i : Nat, t = i ∧ m = D.firm.length - i ∧ i ≤ D.firm.length ∧ PSt w r.b blocks.toNat j w19 d1 T1 r1 D, ⟨_, 0, rfl, rfl, Nat.zero_le _, f⟩, ?_⟩
    rintro _ m t w19 ⟨i, rfl, rfl, hi, f9⟩
    refine If.dec (fun hlt => ?_) (fun _ => kn f9.x)
    have hh : Dk.hasB D (i : Int) = true := by unfold Dk.hasB; simp; omega
    refine diskFirm_all f9.p.q hh fun s w20 rd20 x20 => If.bne (fun h => absurd rfl h) fun _ => ?_
    have f20 := f9.no x20
    refine Nn.mk ⟨r1.sf, Cell.lst f20.p.r.blk rfl, f20.p.r.firm.ix (by decide) (by omega) hlt fun b o v hi' hb hc ov _ _ => ⟨v, hc, ?_⟩⟩
    have e := getD_eq hi'
    have hr := f9.p.r.wf.rf _ (List.getElem_mem hi')
    rw [e] at rd20
    refine same_spec rd20 ov.rd hr.2 hr.2 ?_
    rw [decide_eq_true rfl]
    exact If.not (If.yes (Ar.i64 (by omega) ⟨D.firm.length - (i + 1), by omega, i + 1, by omega, rfl, by omega, f20⟩))
end
end Go.Proofs.Ytdgebnphgfbegaa
