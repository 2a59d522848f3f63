/- RunsDecodes: for every input the law returns true, and each argument reads as it did. -/
import Derived.Test.YtomlobgpeobnfaaRows
import Derived.Test.YtomlobgpeobnfaaRunsU
import Derived.Test.YtomlobgpeobnfaaFrameS
namespace Go.Proofs.Ytomlobgpeobnfaa.runsDecodes
open Go.V Go.ChangeShapes Go.WideShapes Go.ChangeAt Go.RowKit
open Go.ChangeMaps (open_string shut_string)
theorem own : ownKnob Try.prog.godebug = none := by kernel_rfl
theorem laidOut : laidOutB Try.prog = true := by kernel_rfl
set_option maxRecDepth 100000 in
theorem lifted (os : Os) (started : os.Started) (H : Type) (enc : TypeId × Value → H) :
    ReturnsInHanded {} Try.checked os 11 .any (Rows.runsDecodesSpec.pre6 enc Try.prog Try.f11 Rows.runsDecodesRow.domain false) (Rows.runsDecodesSpec.post enc Try.prog Try.f11 false true false false) := by
  refine returnsInHanded_of_change_sized (C := Try.checked) own started (by kernel_rfl) Try.func11
    (ChangeSpec.witness6 (enc := enc) (C := Try.checked) false ⟨#[], #[.slice none 0 0], []⟩ 8 (by kernel_rfl) (by kernel_rfl) (by kernel_rfl) (by kernel_rfl)) ?_
  intro W base args ds gs before hval0 hW _ hsz _
  have hval : ∀ (j : Nat) t v, Try.f11.params[j]? = some t → args[j]? = some v → Value.okWide Try.prog W .any base t v := hval0
  have hW' := hW
  obtain ⟨p, q, hA0, hV, rfl, _, _⟩ := hW
  have hA : DataW.TrodAll enc Try.prog W 0 (fun _ => true) true Try.f11.params.toList args.toList ds p := hA0
  rw [Try.params11] at hA hval
  obtain ⟨v0, vs0, d0, ds0, p0, q0, hargs, rfl, rfl, h0, r0⟩ := trodAll_cons hA
  obtain ⟨rfl, rfl, rfl⟩ := trodAll_nil r0
  obtain rfl : args = #[v0] := by cases args; simp_all
  obtain ⟨rfl, rfl⟩ := trodVars_none hV
  have lt0 : ∀ x ∈ p0, x.block < W.heap.size := by obtain ⟨m, hm⟩ := h0; exact DataW.trod_lt m _ _ _ hm
  obtain ⟨a0, rfl, ess0, el0⟩ : ∃ s : Sl, v0 = s.v ∧ ∃ ess, Elems enc Try.prog W 5 s ess := by
    obtain ⟨sa, sl, sc, rfl⟩ := okWide_slice Try.underlying49 (hval 0 49 v0 rfl rfl)
    obtain ⟨s, hs, ess, hel⟩ := TyR.slice Try.underlying49 (Trod.tyR h0)
    simp only [Value.cells, List.cons.injEq, and_true] at hs
    exact ⟨s, hs, ess, hel⟩
  have sz0 : a0.cap * Try.prog.bytesOf 5 ≤ reachBytes := Trod.sized Try.underlying49 h0 hsz 0 (by first | rfl | exact congrArg (fun l => (l ++ _)[0]?) (congrArg Array.toList Try.params11)) rfl
  rw [show Try.prog.bytesOf 5 = 1 by kernel_rfl, show reachBytes = 0x7ffffffff000 from rfl] at sz0
  have hlaw : C_law11_RunsDecodes a0 W fun b w' => b = true ∧ Ext No W w' := by
    obtain ⟨l0, rd0, b80⟩ := el0.bytes (by kernel_rfl) (by kernel_rfl)
    have c0 := el0.cap
    have lb0 := RdB.len rd0
    exact runsDecodes_spec rd0 b80 (by have := rd0.cap; omega)
  refine Calls.mono hlaw fun e W' ⟨b, he, hb, ext⟩ => ?_
  subst hb he
  have bel := ext.below
  exact ⟨_, rfl, _, _, _, [], _, [], hW', trodAll_mk1 (shut_bool Try.underlying4 _), trodAll_cons_mk (Below.trod laidOut (by kernel_rfl) (of_decide_eq_true (by kernel_rfl)) h0 bel lt0) (trodAll_mk0), rfl, bel.frame _, fun h => by cases h⟩
theorem over : Rows.runsDecodesRow.holds Try.pinned (OpenSpec.ofChange Rows.runsDecodesSpec) :=
  OpenClaim.holds_of_wide 11 Try.f11 rfl rfl rfl rfl rfl rfl rfl ⟨rfl, rfl, rfl, rfl, rfl⟩ rfl rfl rfl rfl rfl (by kernel_rfl) Try.func11 (by kernel_rfl)
    (of_decide_eq_true (by kernel_rfl)) (by unfold Func.isWrapper; rw [if_neg (of_decide_eq_false (by kernel_rfl))]; exact ⟨rfl, rfl⟩)
    (fun os started H enc _ => lifted os started H enc)
end Go.Proofs.Ytomlobgpeobnfaa.runsDecodes
namespace Go.Proofs.Ytomlobgpeobnfaa
theorem runsDecodes_holds : Rows.RunsDecodesSaid := runsDecodes.over
#print axioms runsDecodes_holds
end Go.Proofs.Ytomlobgpeobnfaa
