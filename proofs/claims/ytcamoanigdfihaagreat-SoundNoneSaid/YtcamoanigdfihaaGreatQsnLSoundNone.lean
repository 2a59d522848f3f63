/- SoundNone: for every input the law returns true, and each argument reads as it did. -/
import Derived.Test.YtcamoanigdfihaaGreatRows
import Derived.Test.YtcamoanigdfihaaGreatQsn17
namespace Go.Proofs.YtcamoanigdfihaaGreat.soundNone
open Go.V Go.ChangeShapes Go.WideShapes Go.ChangeAt Go.RowKit
open Go.ChangeMaps (open_string shut_string)
theorem own : ownKnob Tryz.prog.godebug = none := by kernel_rfl
theorem laidOut : laidOutB Tryz.prog = true := by kernel_rfl
set_option maxRecDepth 100000 in
theorem lifted (os : Os) (started : os.Started) (H : Type) (enc : TypeId × Value → H) :
    ReturnsInHanded {} Tryz.checked os 4 .any (Rows.soundNoneSpec.pre6 enc Tryz.prog Tryz.f4 Rows.soundNoneRow.domain false) (Rows.soundNoneSpec.post enc Tryz.prog Tryz.f4 false true false false) := by
  refine returnsInHanded_of_change (C := Tryz.checked) own started (by kernel_rfl) Tryz.func4
    (ChangeSpec.witness6 (enc := enc) (C := Tryz.checked) false ⟨#[], #[.int .u32 0], []⟩ 8 (by kernel_rfl) (by kernel_rfl) (by kernel_rfl) (by kernel_rfl)) ?_
  intro W base args ds gs before hval0 hW _ _
  have hval : ∀ (j : Nat) t v, Tryz.f4.params[j]? = some t → args[j]? = some v → Value.okWide Tryz.prog W .any base t v := hval0
  have hW' := hW
  obtain ⟨p, q, hA0, hV, rfl, _, _⟩ := hW
  have hA : DataW.TrodAll enc Tryz.prog W 0 (fun _ => true) true Tryz.f4.params.toList args.toList ds p := hA0
  rw [Tryz.params4] at hA hval
  obtain ⟨v0, vs0, d0, ds0, p0, q0, hargs, rfl, rfl, h0, r0⟩ := trodAll_cons hA
  obtain ⟨rfl, rfl, rfl⟩ := trodAll_nil r0
  obtain rfl : args = #[v0] := by cases args; simp_all
  obtain ⟨rfl, rfl⟩ := trodVars_none hV
  have lt0 : ∀ x ∈ p0, x.block < W.heap.size := by obtain ⟨m, hm⟩ := h0; exact DataW.trod_lt m _ _ _ hm
  obtain ⟨a0, rfl, wf0⟩ : ∃ n, v0 = .int .u32 n ∧ (Lit.int .u32 n).wf = true := by obtain ⟨x, e1, _, _, wx⟩ := open_int Tryz.underlying33 (hval 0 33 v0 rfl rfl) h0; exact ⟨x, e1, wx⟩
  have hlaw : C_law17_SoundNone a0 W fun b w' => b = true ∧ Ext No W w' := by
    exact soundNone_spec fun w1 x1 => ⟨rfl, x1⟩
  refine Calls.mono hlaw fun e W' ⟨b, he, hb, ext⟩ => ?_
  subst hb he
  have bel := ext.below
  exact ⟨_, rfl, _, _, _, [], _, [], hW', trodAll_mk1 (shut_bool Tryz.underlying4 _), trodAll_cons_mk (Below.trod laidOut (by kernel_rfl) (of_decide_eq_true (by kernel_rfl)) h0 bel lt0) (trodAll_mk0), rfl, bel.frame _, fun h => by cases h⟩
theorem over : Rows.soundNoneRow.holds Tryz.pinned (OpenSpec.ofChange Rows.soundNoneSpec) :=
  OpenClaim.holds_of_wide 4 Tryz.f4 rfl rfl rfl rfl rfl rfl rfl ⟨rfl, rfl, rfl, rfl, rfl⟩ rfl rfl rfl rfl rfl (by kernel_rfl) Tryz.func4 (by kernel_rfl)
    (of_decide_eq_true (by kernel_rfl)) (by unfold Func.isWrapper; rw [if_neg (of_decide_eq_false (by kernel_rfl))]; exact ⟨rfl, rfl⟩)
    (fun os started H enc _ => lifted os started H enc)
end Go.Proofs.YtcamoanigdfihaaGreat.soundNone
namespace Go.Proofs.YtcamoanigdfihaaGreat
theorem soundNone_holds : Rows.SoundNoneSaid := soundNone.over
#print axioms soundNone_holds
end Go.Proofs.YtcamoanigdfihaaGreat
