/- RegsPlays: for every input the law returns true, and each argument reads as it did. -/
import Derived.Test.YtdgebnphgfbegaaRows
import Derived.Test.YtdgebnphgfbegaaRegsF
import Derived.Test.YtdgebnphgfbegaaFrameT
namespace Go.Proofs.Ytdgebnphgfbegaa.regsPlays
open Go.V Go.ChangeShapes Go.WideShapes Go.ChangeAt Go.RowKit
open Go.ChangeMaps (open_string shut_string)
theorem own : ownKnob Try.prog.godebug = none := by kernel_rfl
theorem laidOut : laidOutB Try.prog = true := by kernel_rfl
set_option maxRecDepth 100000 in
theorem lifted (os : Os) (started : os.Started) (H : Type) (enc : TypeId × Value → H) :
    ReturnsInHanded {} Try.checked os 11 .any (Rows.regsPlaysSpec.pre6 enc Try.prog Try.f11 Rows.regsPlaysRow.domain false) (Rows.regsPlaysSpec.post enc Try.prog Try.f11 false true false false) := by
  refine returnsInHanded_of_change_sized (C := Try.checked) own started (by kernel_rfl) Try.func11
    (ChangeSpec.witness6 (enc := enc) (C := Try.checked) false ⟨#[], #[.int .u64 0, .slice none 0 0, .slice none 0 0], []⟩ 8 (by kernel_rfl) (by kernel_rfl) (by kernel_rfl) (by kernel_rfl)) ?_
  intro W base args ds gs before hval0 hW _ hsz _
  have hval : ∀ (j : Nat) t v, Try.f11.params[j]? = some t → args[j]? = some v → Value.okWide Try.prog W .any base t v := hval0
  have hW' := hW
  obtain ⟨p, q, hA0, hV, rfl, _, _⟩ := hW
  have hA : DataW.TrodAll enc Try.prog W 0 (fun _ => true) true Try.f11.params.toList args.toList ds p := hA0
  rw [Try.params11] at hA hval
  obtain ⟨v0, vs0, d0, ds0, p0, q0, hargs, rfl, rfl, h0, r0⟩ := trodAll_cons hA
  obtain ⟨v1, vs1, d1, ds1, p1, q1, rfl, rfl, rfl, h1, r1⟩ := trodAll_cons r0
  obtain ⟨v2, vs2, d2, ds2, p2, q2, rfl, rfl, rfl, h2, r2⟩ := trodAll_cons r1
  obtain ⟨rfl, rfl, rfl⟩ := trodAll_nil r2
  obtain rfl : args = #[v0, v1, v2] := by cases args; simp_all
  obtain ⟨rfl, rfl⟩ := trodVars_none hV
  have lt0 : ∀ x ∈ p0, x.block < W.heap.size := by obtain ⟨m, hm⟩ := h0; exact DataW.trod_lt m _ _ _ hm
  have lt1 : ∀ x ∈ p1, x.block < W.heap.size := by obtain ⟨m, hm⟩ := h1; exact DataW.trod_lt m _ _ _ hm
  have lt2 : ∀ x ∈ p2, x.block < W.heap.size := by obtain ⟨m, hm⟩ := h2; exact DataW.trod_lt m _ _ _ hm
  obtain ⟨a0, rfl, wf0⟩ : ∃ n, v0 = .int .u64 n ∧ (Lit.int .u64 n).wf = true := by obtain ⟨x, e1, _, _, wx⟩ := open_int Try.underlying40 (hval 0 40 v0 rfl rfl) h0; exact ⟨x, e1, wx⟩
  obtain ⟨a1, rfl, ess1, el1⟩ : ∃ s : Sl, v1 = s.v ∧ ∃ ess, ElemsS enc Try.prog W 23 s ess := by
    obtain ⟨sa, sl, sc, rfl⟩ := okWide_slice Try.underlying49 (hval 1 49 v1 rfl rfl)
    obtain ⟨s, hs, ess, hel⟩ := TyRS.slice Try.underlying49 (Trod.tyRS h1 hsz 1 (by first | rfl | exact congrArg (fun l => (l ++ _)[1]?) (congrArg Array.toList Try.params11)) rfl)
    simp only [Value.cells, List.cons.injEq, and_true] at hs
    exact ⟨s, hs, ess, hel⟩
  obtain ⟨a2, rfl, ess2, el2⟩ : ∃ s : Sl, v2 = s.v ∧ ∃ ess, ElemsS enc Try.prog W 59 s ess := by
    obtain ⟨sa, sl, sc, rfl⟩ := okWide_slice Try.underlying56 (hval 2 56 v2 rfl rfl)
    obtain ⟨s, hs, ess, hel⟩ := TyRS.slice Try.underlying56 (Trod.tyRS h2 hsz 2 (by first | rfl | exact congrArg (fun l => (l ++ _)[2]?) (congrArg Array.toList Try.params11)) rfl)
    simp only [Value.cells, List.cons.injEq, and_true] at hs
    exact ⟨s, hs, ess, hel⟩
  have hlaw : C_law09_RegsPlays a0 a1 a2 W fun b w' => b = true ∧ Ext No W w' := by
    obtain ⟨L1, rd1, len1⟩ := bytesLS_open el1
    obtain ⟨O2, len2, rd2, ok2⟩ := rops_open el2
    exact regsPlays_spec (u64_wf wf0) rd1 len1 rd2 len2 ok2
  refine Calls.mono hlaw fun e W' ⟨b, he, hb, ext⟩ => ?_
  subst hb he
  have bel := ext.below
  exact ⟨_, rfl, _, _, _, [], _, [], hW', trodAll_mk1 (shut_bool Try.underlying4 _), trodAll_cons_mk (Below.trod laidOut (by kernel_rfl) (of_decide_eq_true (by kernel_rfl)) h0 bel lt0) (trodAll_cons_mk (Below.trod laidOut (by kernel_rfl) (of_decide_eq_true (by kernel_rfl)) h1 bel lt1) (trodAll_cons_mk (Below.trod laidOut (by kernel_rfl) (of_decide_eq_true (by kernel_rfl)) h2 bel lt2) (trodAll_mk0))), rfl, bel.frame _, fun h => by cases h⟩
theorem over : Rows.regsPlaysRow.holds Try.pinned (OpenSpec.ofChange Rows.regsPlaysSpec) :=
  OpenClaim.holds_of_wide 11 Try.f11 rfl rfl rfl rfl rfl rfl rfl ⟨rfl, rfl, rfl, rfl, rfl⟩ rfl rfl rfl rfl rfl (by kernel_rfl) Try.func11 (by kernel_rfl)
    (of_decide_eq_true (by kernel_rfl)) (by unfold Func.isWrapper; rw [if_neg (of_decide_eq_false (by kernel_rfl))]; exact ⟨rfl, rfl⟩)
    (fun os started H enc _ => lifted os started H enc)
end Go.Proofs.Ytdgebnphgfbegaa.regsPlays
namespace Go.Proofs.Ytdgebnphgfbegaa
theorem regsPlays_holds : Rows.RegsPlaysSaid := regsPlays.over
#print axioms regsPlays_holds
end Go.Proofs.Ytdgebnphgfbegaa
