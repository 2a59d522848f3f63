/- RollPlays: for every input the law returns true, and each argument reads as it did. -/
import Derived.Test.YtpjbalhhlaofmaaGreatRows
import Derived.Test.YtpjbalhhlaofmaaGreatQy19
namespace Go.Proofs.YtpjbalhhlaofmaaGreat.rollPlays
open Go.V Go.ChangeShapes Go.WideShapes Go.ChangeAt Go.RowKit
open Go.ChangeMaps (open_string shut_string)
theorem own : ownKnob Tryz.prog.godebug = none:= by kernel_rfl
theorem laidOut : laidOutB Tryz.prog = true:= by kernel_rfl
set_option maxRecDepth 100000 in
theorem lifted (os : Os) (started : os.Started) (H : Type) (enc : TypeId × Value → H) :
    ReturnsInHanded {} Tryz.checked os 7 .any (Rows.rollPlaysSpec.pre6 enc Tryz.prog Tryz.f7 Rows.rollPlaysRow.domain false) (Rows.rollPlaysSpec.post enc Tryz.prog Tryz.f7 false true false false):= by
  refine returnsInHanded_of_change_sized (C:= Tryz.checked) own started (by kernel_rfl) Tryz.func7
    (ChangeSpec.witness6 (enc:= enc) (C:= Tryz.checked) false ⟨#[], #[.slice none 0 0], []⟩ 8 (by kernel_rfl) (by kernel_rfl) (by kernel_rfl) (by kernel_rfl)) ?_
  intro W base args ds gs before ac3 hW _ jw _
  have Ow : ∀(j : Nat) t v, Tryz.f7.params[j]? = some t → args[j]? = some v → Value.okWide Tryz.prog W .any base t v:= ac3
  have hW' := hW
  obtain⟨p, q, hA0, hV, rfl, _, _⟩ := hW
  have hA : DataW.TrodAll enc Tryz.prog W 0 (fun _=> true) true Tryz.f7.params.toList args.toList ds p:= hA0
  rw[Tryz.params7]at hA Ow
  obtain⟨v0, vs0, d0, ds0, p0, q0, af8, rfl, rfl, h0, r0⟩ := trodAll_cons hA
  obtain⟨rfl, rfl, rfl⟩ := trodAll_nil r0
  obtain rfl : args = #[v0] := by cases args;simp_all
  obtain⟨rfl, rfl⟩ := trodVars_none hV
  have lt0 : ∀x ∈ p0, x.block < W.heap.size:= by obtain⟨m, hm⟩ := h0;exact DataW.trod_lt m _ _ _ hm
  obtain⟨a0, rfl, ag5, el0⟩ : ∃s : Sl, v0 = s.v ∧ ∃h_, DS enc Tryz.prog W 61 s h_:= by
    obtain⟨sa, sl, sc, rfl⟩ := okWide_slice Tryz.underlying59 (Ow 0 59 v0 rfl rfl)
    obtain⟨s, hs, h_, Zj⟩ := nu.slice Tryz.underlying59 (Trod.afO h0 jw 0 (by first | rfl | exact congrArg (fun l=> (l ++ _)[0]?) (congrArg Array.toList Tryz.params7)) rfl)
    simp only[Value.cells, List.cons.injEq, and_true]at hs
    exact⟨s, hs, h_, Zj⟩
  have afP : jF a0 W fun b w' => b = true ∧ Ext No W w' := by
    obtain⟨L0, afQ⟩ := Qf el0
    exact DO afQ fun w1 x1=> ⟨rfl, x1⟩
  refine Calls.mono afP fun e W' ⟨b, he, hb, ext⟩=> ?_
  subst hb he
  have bel:= ext.below
  exact⟨_, rfl, _, _, _, [], _, [], hW', trodAll_mk1 (shut_bool Tryz.underlying4 _), trodAll_cons_mk (Below.trod laidOut (by kernel_rfl) (of_decide_eq_true (by kernel_rfl)) h0 bel lt0) (trodAll_mk0), rfl, bel.frame _, fun h=> by cases h⟩
theorem over : Rows.rollPlaysRow.holds Tryz.pinned (OpenSpec.ofChange Rows.rollPlaysSpec):=
  OpenClaim.holds_of_wide 7 Tryz.f7 rfl rfl rfl rfl rfl rfl rfl ⟨rfl, rfl, rfl, rfl, rfl⟩ rfl rfl rfl rfl rfl (by kernel_rfl) Tryz.func7 (by kernel_rfl)
    (of_decide_eq_true (by kernel_rfl)) (by unfold Func.isWrapper;rw[if_neg (of_decide_eq_false (by kernel_rfl))];exact⟨rfl, rfl⟩)
    (fun os started H enc _=> lifted os started H enc)
end Go.Proofs.YtpjbalhhlaofmaaGreat.rollPlays
namespace Go.Proofs.YtpjbalhhlaofmaaGreat
theorem rollPlays_holds : Rows.RollPlaysSaid:= rollPlays.over
#print axioms rollPlays_holds
end Go.Proofs.YtpjbalhhlaofmaaGreat
