/- RunsMake: for every input the law returns true, and each argument reads as it did. -/
import Derived.Test.YtomlobgpeobnfaaRows
import Derived.Test.YtomlobgpeobnfaaRunsF
import Derived.Test.YtomlobgpeobnfaaFrame
namespace Go.Proofs.Ytomlobgpeobnfaa.runsMake
open Go.V Go.ChangeShapes Go.WideShapes Go.ChangeAt Go.RowKit
open Go.ChangeMaps (open_string shut_string)
theorem own : ownKnob Try.prog.godebug = none := by kernel_rfl
theorem laidOut : laidOutB Try.prog = true := by kernel_rfl
set_option maxRecDepth 100000 in
theorem lifted (os : Os) (started : os.Started) (H : Type) (enc : TypeId × Value → H) :
    ReturnsInHanded {} Try.checked os 6 .any (Rows.runsMakeSpec.pre6 enc Try.prog Try.f6 Rows.runsMakeRow.domain false) (Rows.runsMakeSpec.post enc Try.prog Try.f6 false true false false) := by
  refine returnsInHanded_of_change (C := Try.checked) own started (by kernel_rfl) Try.func6
    (ChangeSpec.witness6 (enc := enc) (C := Try.checked) false ⟨#[], #[.int .u32 0, .int .u32 0, .slice none 0 0, .int .u32 0], []⟩ 8 (by kernel_rfl) (by kernel_rfl) (by kernel_rfl) (by kernel_rfl)) ?_
  intro W base args ds gs before hval0 hW _ _
  have hval : ∀ (j : Nat) t v, Try.f6.params[j]? = some t → args[j]? = some v → Value.okWide Try.prog W .any base t v := hval0
  have hW' := hW
  obtain ⟨p, q, hA0, hV, rfl, _, _⟩ := hW
  have hA : DataW.TrodAll enc Try.prog W 0 (fun _ => true) true Try.f6.params.toList args.toList ds p := hA0
  rw [Try.params6] at hA hval
  obtain ⟨v0, vs0, d0, ds0, p0, q0, hargs, rfl, rfl, h0, r0⟩ := trodAll_cons hA
  obtain ⟨v1, vs1, d1, ds1, p1, q1, rfl, rfl, rfl, h1, r1⟩ := trodAll_cons r0
  obtain ⟨v2, vs2, d2, ds2, p2, q2, rfl, rfl, rfl, h2, r2⟩ := trodAll_cons r1
  obtain ⟨v3, vs3, d3, ds3, p3, q3, rfl, rfl, rfl, h3, r3⟩ := trodAll_cons r2
  obtain ⟨rfl, rfl, rfl⟩ := trodAll_nil r3
  obtain rfl : args = #[v0, v1, v2, v3] := by cases args; simp_all
  obtain ⟨rfl, rfl⟩ := trodVars_none hV
  have lt0 : ∀ x ∈ p0, x.block < W.heap.size := by obtain ⟨m, hm⟩ := h0; exact DataW.trod_lt m _ _ _ hm
  have lt1 : ∀ x ∈ p1, x.block < W.heap.size := by obtain ⟨m, hm⟩ := h1; exact DataW.trod_lt m _ _ _ hm
  have lt2 : ∀ x ∈ p2, x.block < W.heap.size := by obtain ⟨m, hm⟩ := h2; exact DataW.trod_lt m _ _ _ hm
  have lt3 : ∀ x ∈ p3, x.block < W.heap.size := by obtain ⟨m, hm⟩ := h3; exact DataW.trod_lt m _ _ _ hm
  obtain ⟨a0, rfl, wf0⟩ : ∃ n, v0 = .int .u32 n ∧ (Lit.int .u32 n).wf = true := by obtain ⟨x, e1, _, _, wx⟩ := open_int Try.underlying24 (hval 0 24 v0 rfl rfl) h0; exact ⟨x, e1, wx⟩
  obtain ⟨a1, rfl, wf1⟩ : ∃ n, v1 = .int .u32 n ∧ (Lit.int .u32 n).wf = true := by obtain ⟨x, e1, _, _, wx⟩ := open_int Try.underlying24 (hval 1 24 v1 rfl rfl) h1; exact ⟨x, e1, wx⟩
  obtain ⟨a2, rfl, ess2, el2⟩ : ∃ s : Sl, v2 = s.v ∧ ∃ ess, Elems enc Try.prog W 32 s ess := by
    obtain ⟨sa, sl, sc, rfl⟩ := okWide_slice Try.underlying22 (hval 2 22 v2 rfl rfl)
    obtain ⟨s, hs, ess, hel⟩ := TyR.slice Try.underlying22 (Trod.tyR h2)
    simp only [Value.cells, List.cons.injEq, and_true] at hs
    exact ⟨s, hs, ess, hel⟩
  obtain ⟨a3, rfl, wf3⟩ : ∃ n, v3 = .int .u32 n ∧ (Lit.int .u32 n).wf = true := by obtain ⟨x, e1, _, _, wx⟩ := open_int Try.underlying24 (hval 3 24 v3 rfl rfl) h3; exact ⟨x, e1, wx⟩
  have hlaw : C_law11_RunsMake a0 a1 a2 a3 W fun b w' => b = true ∧ Ext No W w' := by
    obtain ⟨l2, n2, rd2, u2⟩ := runs_open el2
    have hn2 : l2.length ≤ 9223372036854775807 := by have h1 := el2.cap; have h2 := el2.max; unfold maxLen at h2; omega
    exact runsMake_spec rd2 u2 hn2
  refine Calls.mono hlaw fun e W' ⟨b, he, hb, ext⟩ => ?_
  subst hb he
  have bel := ext.below
  exact ⟨_, rfl, _, _, _, [], _, [], hW', trodAll_mk1 (shut_bool Try.underlying4 _), trodAll_cons_mk (Below.trod laidOut (by kernel_rfl) (of_decide_eq_true (by kernel_rfl)) h0 bel lt0) (trodAll_cons_mk (Below.trod laidOut (by kernel_rfl) (of_decide_eq_true (by kernel_rfl)) h1 bel lt1) (trodAll_cons_mk (Below.trod laidOut (by kernel_rfl) (of_decide_eq_true (by kernel_rfl)) h2 bel lt2) (trodAll_cons_mk (Below.trod laidOut (by kernel_rfl) (of_decide_eq_true (by kernel_rfl)) h3 bel lt3) (trodAll_mk0)))), rfl, bel.frame _, fun h => by cases h⟩
theorem over : Rows.runsMakeRow.holds Try.pinned (OpenSpec.ofChange Rows.runsMakeSpec) :=
  OpenClaim.holds_of_wide 6 Try.f6 rfl rfl rfl rfl rfl rfl rfl ⟨rfl, rfl, rfl, rfl, rfl⟩ rfl rfl rfl rfl rfl (by kernel_rfl) Try.func6 (by kernel_rfl)
    (of_decide_eq_true (by kernel_rfl)) (by unfold Func.isWrapper; rw [if_neg (of_decide_eq_false (by kernel_rfl))]; exact ⟨rfl, rfl⟩)
    (fun os started H enc _ => lifted os started H enc)
end Go.Proofs.Ytomlobgpeobnfaa.runsMake
namespace Go.Proofs.Ytomlobgpeobnfaa
theorem runsMake_holds : Rows.RunsMakeSaid := runsMake.over
#print axioms runsMake_holds
end Go.Proofs.Ytomlobgpeobnfaa
