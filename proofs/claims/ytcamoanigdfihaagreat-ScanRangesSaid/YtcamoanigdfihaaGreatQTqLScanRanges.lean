/- ScanRanges: for every input the law returns true, and each argument reads as it did. -/
import Derived.Test.YtcamoanigdfihaaGreatRows
import Derived.Test.YtcamoanigdfihaaGreatQTq17
namespace Go.Proofs.YtcamoanigdfihaaGreat.scanRanges
open Go.V Go.ChangeShapes Go.WideShapes Go.ChangeAt Go.RowKit
open Go.ChangeMaps (open_string shut_string)
theorem own : ownKnob Tryz.prog.godebug = none := by kernel_rfl
theorem laidOut : laidOutB Tryz.prog = true := by kernel_rfl
set_option maxRecDepth 100000 in
theorem lifted (os : Os) (started : os.Started) (H : Type) (enc : TypeId × Value → H) :
    ReturnsInHanded {} Tryz.checked os 8 .any (Rows.scanRangesSpec.pre6 enc Tryz.prog Tryz.f8 Rows.scanRangesRow.domain false) (Rows.scanRangesSpec.post enc Tryz.prog Tryz.f8 false true false false) := by
  refine returnsInHanded_of_change (C := Tryz.checked) own started (by kernel_rfl) Tryz.func8
    (ChangeSpec.witness6 (enc := enc) (C := Tryz.checked) false ⟨#[], #[.slice none 0 0, .slice none 0 0, .slice none 0 0, .int .i64 0, .bool false], []⟩ 8 (by kernel_rfl) (by kernel_rfl) (by kernel_rfl) (by kernel_rfl)) ?_
  intro W base args ds gs before hval0 hW _ _
  have hval : ∀ (j : Nat) t v, Tryz.f8.params[j]? = some t → args[j]? = some v → Value.okWide Tryz.prog W .any base t v := hval0
  have hW' := hW
  obtain ⟨p, q, hA0, hV, rfl, _, _⟩ := hW
  have hA : DataW.TrodAll enc Tryz.prog W 0 (fun _ => true) true Tryz.f8.params.toList args.toList ds p := hA0
  rw [Tryz.params8] at hA hval
  obtain ⟨v0, vs0, d0, ds0, p0, q0, hargs, rfl, rfl, h0, r0⟩ := trodAll_cons hA
  obtain ⟨v1, vs1, d1, ds1, p1, q1, rfl, rfl, rfl, h1, r1⟩ := trodAll_cons r0
  obtain ⟨v2, vs2, d2, ds2, p2, q2, rfl, rfl, rfl, h2, r2⟩ := trodAll_cons r1
  obtain ⟨v3, vs3, d3, ds3, p3, q3, rfl, rfl, rfl, h3, r3⟩ := trodAll_cons r2
  obtain ⟨v4, vs4, d4, ds4, p4, q4, rfl, rfl, rfl, h4, r4⟩ := trodAll_cons r3
  obtain ⟨rfl, rfl, rfl⟩ := trodAll_nil r4
  obtain rfl : args = #[v0, v1, v2, v3, v4] := by cases args; simp_all
  obtain ⟨rfl, rfl⟩ := trodVars_none hV
  have lt0 : ∀ x ∈ p0, x.block < W.heap.size := by obtain ⟨m, hm⟩ := h0; exact DataW.trod_lt m _ _ _ hm
  have lt1 : ∀ x ∈ p1, x.block < W.heap.size := by obtain ⟨m, hm⟩ := h1; exact DataW.trod_lt m _ _ _ hm
  have lt2 : ∀ x ∈ p2, x.block < W.heap.size := by obtain ⟨m, hm⟩ := h2; exact DataW.trod_lt m _ _ _ hm
  have lt3 : ∀ x ∈ p3, x.block < W.heap.size := by obtain ⟨m, hm⟩ := h3; exact DataW.trod_lt m _ _ _ hm
  have lt4 : ∀ x ∈ p4, x.block < W.heap.size := by obtain ⟨m, hm⟩ := h4; exact DataW.trod_lt m _ _ _ hm
  obtain ⟨a0, rfl, ess0, el0⟩ : ∃ s : Sl, v0 = s.v ∧ ∃ ess, Elems enc Tryz.prog W 58 s ess := by
    obtain ⟨sa, sl, sc, rfl⟩ := okWide_slice Tryz.underlying59 (hval 0 59 v0 rfl rfl)
    obtain ⟨s, hs, ess, hel⟩ := TyR.slice Tryz.underlying59 (Trod.tyR h0)
    simp only [Value.cells, List.cons.injEq, and_true] at hs
    exact ⟨s, hs, ess, hel⟩
  obtain ⟨a1, rfl, ess1, el1⟩ : ∃ s : Sl, v1 = s.v ∧ ∃ ess, Elems enc Tryz.prog W 5 s ess := by
    obtain ⟨sa, sl, sc, rfl⟩ := okWide_slice Tryz.underlying40 (hval 1 40 v1 rfl rfl)
    obtain ⟨s, hs, ess, hel⟩ := TyR.slice Tryz.underlying40 (Trod.tyR h1)
    simp only [Value.cells, List.cons.injEq, and_true] at hs
    exact ⟨s, hs, ess, hel⟩
  obtain ⟨a2, rfl, ess2, el2⟩ : ∃ s : Sl, v2 = s.v ∧ ∃ ess, Elems enc Tryz.prog W 5 s ess := by
    obtain ⟨sa, sl, sc, rfl⟩ := okWide_slice Tryz.underlying40 (hval 2 40 v2 rfl rfl)
    obtain ⟨s, hs, ess, hel⟩ := TyR.slice Tryz.underlying40 (Trod.tyR h2)
    simp only [Value.cells, List.cons.injEq, and_true] at hs
    exact ⟨s, hs, ess, hel⟩
  obtain ⟨a3, rfl, wf3⟩ : ∃ n, v3 = .int .i64 n ∧ (Lit.int .i64 n).wf = true := by obtain ⟨x, e1, _, _, wx⟩ := open_int Tryz.underlying3 (hval 3 3 v3 rfl rfl) h3; exact ⟨x, e1, wx⟩
  obtain ⟨a4, rfl⟩ : ∃ b, v4 = .bool b := by obtain ⟨x, e1, _, _⟩ := open_bool Tryz.underlying4 (hval 4 4 v4 rfl rfl) h4; exact ⟨x, e1⟩
  have hlaw : C_law16_ScanRanges a0 a1 a2 a3 a4 W fun b w' => b = true ∧ Ext No W w' := by
    obtain ⟨L0, len0, rd0, ok0⟩ := opsA_open el0
    obtain ⟨l1, rd1, b1⟩ := el1.bytes (by kernel_rfl) (by kernel_rfl)
    obtain ⟨l2, rd2, b2⟩ := el2.bytes (by kernel_rfl) (by kernel_rfl)
    exact scanRanges_spec rd0 ok0 rd1 b1 rd2 b2 fun w1 x1 => ⟨rfl, x1⟩
  refine Calls.mono hlaw fun e W' ⟨b, he, hb, ext⟩ => ?_
  subst hb he
  have bel := ext.below
  exact ⟨_, rfl, _, _, _, [], _, [], hW', trodAll_mk1 (shut_bool Tryz.underlying4 _), trodAll_cons_mk (Below.trod laidOut (by kernel_rfl) (of_decide_eq_true (by kernel_rfl)) h0 bel lt0) (trodAll_cons_mk (Below.trod laidOut (by kernel_rfl) (of_decide_eq_true (by kernel_rfl)) h1 bel lt1) (trodAll_cons_mk (Below.trod laidOut (by kernel_rfl) (of_decide_eq_true (by kernel_rfl)) h2 bel lt2) (trodAll_cons_mk (Below.trod laidOut (by kernel_rfl) (of_decide_eq_true (by kernel_rfl)) h3 bel lt3) (trodAll_cons_mk (Below.trod laidOut (by kernel_rfl) (of_decide_eq_true (by kernel_rfl)) h4 bel lt4) (trodAll_mk0))))), rfl, bel.frame _, fun h => by cases h⟩
theorem over : Rows.scanRangesRow.holds Tryz.pinned (OpenSpec.ofChange Rows.scanRangesSpec) :=
  OpenClaim.holds_of_wide 8 Tryz.f8 rfl rfl rfl rfl rfl rfl rfl ⟨rfl, rfl, rfl, rfl, rfl⟩ rfl rfl rfl rfl rfl (by kernel_rfl) Tryz.func8 (by kernel_rfl)
    (of_decide_eq_true (by kernel_rfl)) (by unfold Func.isWrapper; rw [if_neg (of_decide_eq_false (by kernel_rfl))]; exact ⟨rfl, rfl⟩)
    (fun os started H enc _ => lifted os started H enc)
end Go.Proofs.YtcamoanigdfihaaGreat.scanRanges
namespace Go.Proofs.YtcamoanigdfihaaGreat
theorem scanRanges_holds : Rows.ScanRangesSaid := scanRanges.over
#print axioms scanRanges_holds
end Go.Proofs.YtcamoanigdfihaaGreat
