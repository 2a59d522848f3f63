/- RollBytes: for every input the law returns true, and each argument reads as it did. -/
import Derived.Test.YtpjbalhhlaofmaaGreatRows
import Derived.Test.YtpjbalhhlaofmaaGreatQv19
namespace Go.Proofs.YtpjbalhhlaofmaaGreat.rollBytes
open Go.V Go.ChangeShapes Go.WideShapes Go.ChangeAt Go.RowKit
open Go.ChangeMaps (open_string shut_string)
theorem own : ownKnob Tryz.prog.godebug = none:= by kernel_rfl
theorem laidOut : laidOutB Tryz.prog = true:= by kernel_rfl
set_option maxRecDepth 100000 in
theorem lifted (os : Os) (started : os.Started) (H : Type) (enc : TypeId × Value → H) :
    ReturnsInHanded {} Tryz.checked os 5 .any (Rows.rollBytesSpec.pre6 enc Tryz.prog Tryz.f5 Rows.rollBytesRow.domain false) (Rows.rollBytesSpec.post enc Tryz.prog Tryz.f5 false true false false):= by
  refine returnsInHanded_of_change_sized (C:= Tryz.checked) own started (by kernel_rfl) Tryz.func5
    (ChangeSpec.witness6 (enc:= enc) (C:= Tryz.checked) false ⟨#[], #[.agg #[.int .u32 0,.int .i64 0,.slice none 0 0,.int .u32 0,.int .u64 0,.int .u16 0,.int .u8 0,.int .i64 0,.slice none 0 0]], []⟩ 8 (by kernel_rfl) (by kernel_rfl) (by kernel_rfl) (by kernel_rfl)) ?_
  intro W base args ds gs before BZ hW _ gZ _
  have sM : ∀(j : Nat) t v, Tryz.f5.params[j]? = some t → args[j]? = some v → Value.okWide Tryz.prog W .any base t v:= BZ
  have Xq := hW
  obtain⟨p, q, Xr, hV, rfl, _, _⟩ := hW
  have hA : DataW.TrodAll enc Tryz.prog W 0 (fun _=> true) true Tryz.f5.params.toList args.toList ds p:= Xr
  rw[Tryz.params5]at hA sM
  obtain⟨v0, vs0, d0, ds0, p0, q0, Ri, rfl, rfl, h0, r0⟩ := trodAll_cons hA
  obtain⟨rfl, rfl, rfl⟩ := trodAll_nil r0
  obtain rfl : args = #[v0] := by cases args;simp_all
  obtain⟨rfl, rfl⟩ := trodVars_none hV
  have Xs : ∀x ∈ p0, x.block < W.heap.size:= by obtain⟨m, hm⟩ := h0;exact DataW.trod_lt m _ _ _ hm
  obtain⟨RT, rfl, Xt⟩ := okWide_struct Tryz.underlying33 (sM 0 33 v0 rfl rfl)
  have ty0 : kz enc Tryz.prog W 33 RT.toList:= Trod.Re h0 gZ 0 (by first | rfl | exact congrArg (fun l=> (l ++ _)[0]?) (congrArg Array.toList Tryz.params5)) rfl
  obtain⟨⟨v0, x0⟩, OL, sr0, gb0⟩ := FX rfl Xt ty0
  obtain rfl : RT = v0.cells.toArray:= by have h : RT.toList = v0.cells:= OL;rw[← h]
  have Kb : iX v0.ai v0.ay v0.mark v0.root.p v0.root.c v0.root.g v0.lev v0.au v0.held W fun b w' => b = true ∧ Ext No W w' := by
    exact BW sr0 gb0 fun w1 x1=> ⟨rfl, x1⟩
  refine Calls.mono Kb fun e W' ⟨b, he, hb, ext⟩=> ?_
  subst hb he
  have Lk:= ext.below
  exact⟨_, rfl, _, _, _, [], _, [], Xq, trodAll_mk1 (shut_bool Tryz.underlying4 _), trodAll_cons_mk (Below.trod laidOut (by kernel_rfl) (of_decide_eq_true (by kernel_rfl)) h0 Lk Xs) (trodAll_mk0), rfl, Lk.frame _, fun h=> by cases h⟩
theorem over : Rows.rollBytesRow.holds Tryz.pinned (OpenSpec.ofChange Rows.rollBytesSpec):=
  OpenClaim.holds_of_wide 5 Tryz.f5 rfl rfl rfl rfl rfl rfl rfl ⟨rfl, rfl, rfl, rfl, rfl⟩ rfl rfl rfl rfl rfl (by kernel_rfl) Tryz.func5 (by kernel_rfl)
    (of_decide_eq_true (by kernel_rfl)) (by unfold Func.isWrapper;rw[if_neg (of_decide_eq_false (by kernel_rfl))];exact⟨rfl, rfl⟩)
    (fun os started H enc _=> lifted os started H enc)
end Go.Proofs.YtpjbalhhlaofmaaGreat.rollBytes
namespace Go.Proofs.YtpjbalhhlaofmaaGreat
theorem rollBytes_holds : Rows.RollBytesSaid:= rollBytes.over
#print axioms rollBytes_holds
end Go.Proofs.YtpjbalhhlaofmaaGreat
