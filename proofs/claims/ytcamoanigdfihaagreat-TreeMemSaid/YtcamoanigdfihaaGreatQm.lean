/- TreeMem: for every input the law returns true, and each argument reads as it did. -/
import Derived.Test.YtcamoanigdfihaaGreatRows
import Derived.Test.YtcamoanigdfihaaGreatQm18
namespace Go.Proofs.YtcamoanigdfihaaGreat.treeMem
open Go.V Go.ChangeShapes Go.WideShapes Go.ChangeAt Go.RowKit
open Go.ChangeMaps (open_string shut_string)
theorem own : ownKnob Tryz.prog.godebug = none := by kernel_rfl
theorem laidOut : laidOutB Tryz.prog = true := by kernel_rfl
set_option maxRecDepth 100000 in
theorem lifted (os : Os) (started : os.Started) (H : Type) (enc : TypeId × Value → H) :
    ReturnsInHanded {} Tryz.checked os 11 .any (Rows.treeMemSpec.pre6 enc Tryz.prog Tryz.f11 Rows.treeMemRow.domain false) (Rows.treeMemSpec.post enc Tryz.prog Tryz.f11 false true false false) := by
  refine returnsInHanded_of_change (C := Tryz.checked) own started (by kernel_rfl) Tryz.func11
    (ChangeSpec.witness6 (enc := enc) (C := Tryz.checked) false ⟨#[], #[.int .u16 0, .slice none 0 0], []⟩ 8 (by kernel_rfl) (by kernel_rfl) (by kernel_rfl) (by kernel_rfl)) ?_
  intro W base args ds gs before hval0 hW _ _
  have hval : ∀ (j : Nat) t v, Tryz.f11.params[j]? = some t → args[j]? = some v → Value.okWide Tryz.prog W .any base t v := hval0
  have hW' := hW
  obtain ⟨p, q, hA0, hV, rfl, _, _⟩ := hW
  have hA : DataW.TrodAll enc Tryz.prog W 0 (fun _ => true) true Tryz.f11.params.toList args.toList ds p := hA0
  rw [Tryz.params11] at hA hval
  obtain ⟨v0, vs0, d0, ds0, p0, q0, hargs, rfl, rfl, h0, r0⟩ := trodAll_cons hA
  obtain ⟨v1, vs1, d1, ds1, p1, q1, rfl, rfl, rfl, h1, r1⟩ := trodAll_cons r0
  obtain ⟨rfl, rfl, rfl⟩ := trodAll_nil r1
  obtain rfl : args = #[v0, v1] := by cases args; simp_all
  obtain ⟨rfl, rfl⟩ := trodVars_none hV
  have lt0 : ∀ x ∈ p0, x.block < W.heap.size := by obtain ⟨m, hm⟩ := h0; exact DataW.trod_lt m _ _ _ hm
  have lt1 : ∀ x ∈ p1, x.block < W.heap.size := by obtain ⟨m, hm⟩ := h1; exact DataW.trod_lt m _ _ _ hm
  obtain ⟨a0, rfl, wf0⟩ : ∃ n, v0 = .int .u16 n ∧ (Lit.int .u16 n).wf = true := by obtain ⟨x, e1, _, _, wx⟩ := open_int Tryz.underlying26 (hval 0 26 v0 rfl rfl) h0; exact ⟨x, e1, wx⟩
  obtain ⟨a1, rfl, ess1, el1⟩ : ∃ s : Sl, v1 = s.v ∧ ∃ ess, Elems enc Tryz.prog W 108 s ess := by
    obtain ⟨sa, sl, sc, rfl⟩ := okWide_slice Tryz.underlying100 (hval 1 100 v1 rfl rfl)
    obtain ⟨s, hs, ess, hel⟩ := TyR.slice Tryz.underlying100 (Trod.tyR h1)
    simp only [Value.cells, List.cons.injEq, and_true] at hs
    exact ⟨s, hs, ess, hel⟩
  have hlaw : C_law15_TreeMem a0 a1 W fun b w' => b = true ∧ Ext No W w' := by
    obtain ⟨L1, rd1, ok1⟩ := acts_open el1
    exact treeMem_spec rd1 ok1 (u16_wf' wf0) fun w1 x1 => ⟨rfl, x1⟩
  refine Calls.mono hlaw fun e W' ⟨b, he, hb, ext⟩ => ?_
  subst hb he
  have bel := ext.below
  exact ⟨_, rfl, _, _, _, [], _, [], hW', trodAll_mk1 (shut_bool Tryz.underlying4 _), trodAll_cons_mk (Below.trod laidOut (by kernel_rfl) (of_decide_eq_true (by kernel_rfl)) h0 bel lt0) (trodAll_cons_mk (Below.trod laidOut (by kernel_rfl) (of_decide_eq_true (by kernel_rfl)) h1 bel lt1) (trodAll_mk0)), rfl, bel.frame _, fun h => by cases h⟩
theorem over : Rows.treeMemRow.holds Tryz.pinned (OpenSpec.ofChange Rows.treeMemSpec) :=
  OpenClaim.holds_of_wide 11 Tryz.f11 rfl rfl rfl rfl rfl rfl rfl ⟨rfl, rfl, rfl, rfl, rfl⟩ rfl rfl rfl rfl rfl (by kernel_rfl) Tryz.func11 (by kernel_rfl)
    (of_decide_eq_true (by kernel_rfl)) (by unfold Func.isWrapper; rw [if_neg (of_decide_eq_false (by kernel_rfl))]; exact ⟨rfl, rfl⟩)
    (fun os started H enc _ => lifted os started H enc)
end Go.Proofs.YtcamoanigdfihaaGreat.treeMem
namespace Go.Proofs.YtcamoanigdfihaaGreat
theorem treeMem_holds : Rows.TreeMemSaid := treeMem.over
#print axioms treeMem_holds
end Go.Proofs.YtcamoanigdfihaaGreat
