/- RollNone: for every input the law returns true, and each argument reads as it did. -/
import Derived.Test.YtpjbalhhlaofmaaGreatRows
import Derived.Test.YtpjbalhhlaofmaaGreatQv19
namespace Go.Proofs.YtpjbalhhlaofmaaGreat.rollNone
open Go.V Go.ChangeShapes Go.WideShapes Go.ChangeAt Go.RowKit
open Go.ChangeMaps (open_string shut_string)
theorem own : ownKnob Tryz.prog.godebug = none:= by kernel_rfl
theorem laidOut : laidOutB Tryz.prog = true:= by kernel_rfl
set_option maxRecDepth 100000 in
theorem lifted (os : Os) (started : os.Started) (H : Type) (enc : TypeId × Value → H) :
    ReturnsInHanded {} Tryz.checked os 4 .any (Rows.rollNoneSpec.pre6 enc Tryz.prog Tryz.f4 Rows.rollNoneRow.domain false) (Rows.rollNoneSpec.post enc Tryz.prog Tryz.f4 false true false false):= by
  refine returnsInHanded_of_change_sized (C:= Tryz.checked) own started (by kernel_rfl) Tryz.func4
    (ChangeSpec.witness6 (enc:= enc) (C:= Tryz.checked) false ⟨#[], #[.int .u32 0,.slice none 0 0], []⟩ 8 (by kernel_rfl) (by kernel_rfl) (by kernel_rfl) (by kernel_rfl)) ?_
  intro W base args ds gs before BZ hW _ gZ _
  have sM : ∀(j : Nat) t v, Tryz.f4.params[j]? = some t → args[j]? = some v → Value.okWide Tryz.prog W .any base t v:= BZ
  have Xq := hW
  obtain⟨p, q, Xr, hV, rfl, _, _⟩ := hW
  have hA : DataW.TrodAll enc Tryz.prog W 0 (fun _=> true) true Tryz.f4.params.toList args.toList ds p:= Xr
  rw[Tryz.params4]at hA sM
  obtain⟨v0, vs0, d0, ds0, p0, q0, Ri, rfl, rfl, h0, r0⟩ := trodAll_cons hA
  obtain⟨v1, vs1, d1, ds1, p1, q1, rfl, rfl, rfl, h1, r1⟩ := trodAll_cons r0
  obtain⟨rfl, rfl, rfl⟩ := trodAll_nil r1
  obtain rfl : args = #[v0, v1] := by cases args;simp_all
  obtain⟨rfl, rfl⟩ := trodVars_none hV
  have Xs : ∀x ∈ p0, x.block < W.heap.size:= by obtain⟨m, hm⟩ := h0;exact DataW.trod_lt m _ _ _ hm
  have lt1 : ∀x ∈ p1, x.block < W.heap.size:= by obtain⟨m, hm⟩ := h1;exact DataW.trod_lt m _ _ _ hm
  obtain⟨a0, rfl, wf0⟩ : ∃n, v0 = .int .u32 n ∧ (Lit.int .u32 n).wf = true:= by obtain⟨x, e1, _, _, wx⟩ := open_int Tryz.underlying22 (sM 0 22 v0 rfl rfl) h0;exact⟨x, e1, wx⟩
  obtain⟨a1, rfl, aeC, el1⟩ : ∃s : Sl, v1 = s.v ∧ ∃gi, BY enc Tryz.prog W 5 s gi:= by
    obtain⟨sa, sl, sc, rfl⟩ := okWide_slice Tryz.underlying23 (sM 1 23 v1 rfl rfl)
    obtain⟨s, hs, gi, NL⟩ := kz.slice Tryz.underlying23 (Trod.Re h1 gZ 1 (by first | rfl | exact congrArg (fun l=> (l ++ _)[1]?) (congrArg Array.toList Tryz.params4)) rfl)
    simp only[Value.cells, List.cons.injEq, and_true]at hs
    exact⟨s, hs, gi, NL⟩
  have Kb : jR a0 a1 W fun b w' => b = true ∧ Ext No W w' := by
    obtain⟨l1, rd1, b1⟩ := el1.toti.bytes (by kernel_rfl) (by kernel_rfl)
    exact CT (Rh wf0) rd1 b1 fun w1 x1=> ⟨rfl, x1⟩
  refine Calls.mono Kb fun e W' ⟨b, he, hb, ext⟩=> ?_
  subst hb he
  have Lk:= ext.below
  exact⟨_, rfl, _, _, _, [], _, [], Xq, trodAll_mk1 (shut_bool Tryz.underlying4 _), trodAll_cons_mk (Below.trod laidOut (by kernel_rfl) (of_decide_eq_true (by kernel_rfl)) h0 Lk Xs) (trodAll_cons_mk (Below.trod laidOut (by kernel_rfl) (of_decide_eq_true (by kernel_rfl)) h1 Lk lt1) (trodAll_mk0)), rfl, Lk.frame _, fun h=> by cases h⟩
theorem over : Rows.rollNoneRow.holds Tryz.pinned (OpenSpec.ofChange Rows.rollNoneSpec):=
  OpenClaim.holds_of_wide 4 Tryz.f4 rfl rfl rfl rfl rfl rfl rfl ⟨rfl, rfl, rfl, rfl, rfl⟩ rfl rfl rfl rfl rfl (by kernel_rfl) Tryz.func4 (by kernel_rfl)
    (of_decide_eq_true (by kernel_rfl)) (by unfold Func.isWrapper;rw[if_neg (of_decide_eq_false (by kernel_rfl))];exact⟨rfl, rfl⟩)
    (fun os started H enc _=> lifted os started H enc)
end Go.Proofs.YtpjbalhhlaofmaaGreat.rollNone
namespace Go.Proofs.YtpjbalhhlaofmaaGreat
theorem rollNone_holds : Rows.RollNoneSaid:= rollNone.over
#print axioms rollNone_holds
end Go.Proofs.YtpjbalhhlaofmaaGreat
