/- VaultNew: for every input the law returns true, and each argument reads as it did. -/
import Derived.Test.YtiigcapldngijaaGreatRows
import Derived.Test.YtiigcapldngijaaGreatQn18
namespace Go.Proofs.YtiigcapldngijaaGreat.vaultNew
open Go.V Go.ChangeShapes Go.WideShapes Go.ChangeAt Go.RowKit
open Go.ChangeMaps (open_string shut_string)
theorem own : ownKnob Tryz.prog.godebug = none:= by kernel_rfl
theorem laidOut : laidOutB Tryz.prog = true:= by kernel_rfl
set_option maxRecDepth 100000 in
theorem lifted (os : Os) (started : os.Started) (H : Type) (enc : TypeId × Value → H) :
    ReturnsInHanded {} Tryz.checked os 3 .any (Rows.vaultNewSpec.pre6 enc Tryz.prog Tryz.f3 Rows.vaultNewRow.domain false) (Rows.vaultNewSpec.post enc Tryz.prog Tryz.f3 false true false false):= by
  refine returnsInHanded_of_change (C:= Tryz.checked) own started (by kernel_rfl) Tryz.func3
    (ChangeSpec.witness6 (enc:= enc) (C:= Tryz.checked) false ⟨#[], #[.int .i64 0,.slice none 0 0,.int .i64 0,.int .i64 0], []⟩ 8 (by kernel_rfl) (by kernel_rfl) (by kernel_rfl) (by kernel_rfl)) ?_
  intro W base args ds gs before aeH hW _ _
  have NM : ∀(j : Nat) t v, Tryz.f3.params[j]? = some t → args[j]? = some v → Value.okWide Tryz.prog W .any base t v:= aeH
  have hW' := hW
  obtain⟨p, q, hA0, hV, rfl, _, _⟩ := hW
  have hA : DataW.TrodAll enc Tryz.prog W 0 (fun _=> true) true Tryz.f3.params.toList args.toList ds p:= hA0
  rw[Tryz.params3]at hA NM
  obtain⟨v0, vs0, d0, ds0, p0, q0, ahw, rfl, rfl, h0, r0⟩ := trodAll_cons hA
  obtain⟨v1, vs1, d1, ds1, p1, q1, rfl, rfl, rfl, h1, r1⟩ := trodAll_cons r0
  obtain⟨v2, vs2, d2, ds2, p2, q2, rfl, rfl, rfl, h2, r2⟩ := trodAll_cons r1
  obtain⟨v3, vs3, d3, ds3, p3, q3, rfl, rfl, rfl, h3, r3⟩ := trodAll_cons r2
  obtain⟨rfl, rfl, rfl⟩ := trodAll_nil r3
  obtain rfl : args = #[v0, v1, v2, v3] := by cases args;simp_all
  obtain⟨rfl, rfl⟩ := trodVars_none hV
  have lt0 : ∀x ∈ p0, x.block < W.heap.size:= by obtain⟨m, hm⟩ := h0;exact DataW.trod_lt m _ _ _ hm
  have Yx : ∀x ∈ p1, x.block < W.heap.size:= by obtain⟨m, hm⟩ := h1;exact DataW.trod_lt m _ _ _ hm
  have Na : ∀x ∈ p2, x.block < W.heap.size:= by obtain⟨m, hm⟩ := h2;exact DataW.trod_lt m _ _ _ hm
  have Yy : ∀x ∈ p3, x.block < W.heap.size:= by obtain⟨m, hm⟩ := h3;exact DataW.trod_lt m _ _ _ hm
  obtain⟨a0, rfl, wf0⟩ : ∃n, v0 = .int .i64 n ∧ (Lit.int .i64 n).wf = true:= by obtain⟨x, e1, _, _, wx⟩ := open_int Tryz.underlying3 (NM 0 3 v0 rfl rfl) h0;exact⟨x, e1, wx⟩
  obtain⟨a1, rfl, ais, el1⟩ : ∃s : Sl, v1 = s.v ∧ ∃rR, CW enc Tryz.prog W 5 s rR:= by
    obtain⟨sa, sl, sc, rfl⟩ := okWide_slice Tryz.underlying22 (NM 1 22 v1 rfl rfl)
    obtain⟨s, hs, rR, hel⟩ := M8.slice Tryz.underlying22 (Trod.tyR h1)
    simp only[Value.cells, List.cons.injEq, and_true]at hs
    exact⟨s, hs, rR, hel⟩
  obtain⟨a2, rfl, wf2⟩ : ∃n, v2 = .int .i64 n ∧ (Lit.int .i64 n).wf = true:= by obtain⟨x, e1, _, _, wx⟩ := open_int Tryz.underlying3 (NM 2 3 v2 rfl rfl) h2;exact⟨x, e1, wx⟩
  obtain⟨a3, rfl, wf3⟩ : ∃n, v3 = .int .i64 n ∧ (Lit.int .i64 n).wf = true:= by obtain⟨x, e1, _, _, wx⟩ := open_int Tryz.underlying3 (NM 3 3 v3 rfl rfl) h3;exact⟨x, e1, wx⟩
  have ahe : me a0 a1 a2 a3 W fun b w' => b = true ∧ Ext No W w' := by
    obtain⟨l1, rd1, b1⟩ := el1.bytes (by kernel_rfl) (by kernel_rfl)
    exact Hq rd1 b1 fun w1 x1=> ⟨rfl, x1⟩
  refine Calls.mono ahe fun e W' ⟨b, he, hb, ext⟩=> ?_
  subst hb he
  have bel:= ext.below
  exact⟨_, rfl, _, _, _, [], _, [], hW', trodAll_mk1 (shut_bool Tryz.underlying4 _), trodAll_cons_mk (Below.trod laidOut (by kernel_rfl) (of_decide_eq_true (by kernel_rfl)) h0 bel lt0) (trodAll_cons_mk (Below.trod laidOut (by kernel_rfl) (of_decide_eq_true (by kernel_rfl)) h1 bel Yx) (trodAll_cons_mk (Below.trod laidOut (by kernel_rfl) (of_decide_eq_true (by kernel_rfl)) h2 bel Na) (trodAll_cons_mk (Below.trod laidOut (by kernel_rfl) (of_decide_eq_true (by kernel_rfl)) h3 bel Yy) (trodAll_mk0)))), rfl, bel.frame _, fun h=> by cases h⟩
theorem jT {a b : Bool} (h : a = true) (k : b = true) : (a && b) = true:= by rw[h, k];rfl
set_option maxRecDepth 100000 in
theorem jf3 : mapsRowed Tryz.prog = true:= by kernel_rfl
set_option maxRecDepth 100000 in
theorem ahf : (Rows.vaultNewRow.inPlace == Tryz.prog.inPlace 3) = true:= by kernel_rfl
set_option maxRecDepth 100000 in
theorem ahg : (Rows.vaultNewRow.unfollowed == Tryz.prog.unfollowed 3) = true:= by kernel_rfl
set_option maxRecDepth 100000 in
theorem ahh : (Rows.vaultNewRow.recurses == Tryz.prog.recurses 3) = true:= by kernel_rfl
set_option maxRecDepth 100000 in
theorem ahi : (Rows.vaultNewRow.named == Tryz.prog.varsNamed 3) = true:= by kernel_rfl
set_option maxRecDepth 100000 in
theorem ahj : Tryz.prog.stopsHeard = true:= by kernel_rfl
set_option maxRecDepth 100000 in
theorem ahk : Tryz.prog.mayEnter = true:= by kernel_rfl
set_option maxRecDepth 100000 in
theorem closed : joinedFacts Tryz.prog 3 Tryz.f3 Rows.vaultNewSpec Rows.vaultNewRow = true:= by
  unfold joinedFacts
  exact(jT (jT (jT (jT (jT (jT (jT (jT (jT (jT (jT (jT (jT (jT (jT (jT (jT (jT (jT (jT (jT (jT (jT (jT (jT (jT (jT (jT (jT (jT (jT (by kernel_rfl) laidOut) jf3) (by kernel_rfl)) (by kernel_rfl)) (by kernel_rfl)) (by kernel_rfl)) (by kernel_rfl)) (by kernel_rfl)) ahf) ahg) ahh) ahi) (by kernel_rfl)) (by kernel_rfl)) (by kernel_rfl)) (by kernel_rfl)) (by kernel_rfl)) (by kernel_rfl)) (by kernel_rfl)) (by kernel_rfl)) (by kernel_rfl)) (by kernel_rfl)) (by kernel_rfl)) ahj) ahk) (by kernel_rfl)) (by kernel_rfl)) (by kernel_rfl)) (by kernel_rfl)) (by kernel_rfl)) (by kernel_rfl))
theorem over : Rows.vaultNewRow.holds Tryz.pinned (OpenSpec.ofChange Rows.vaultNewSpec):=
  OpenClaim.holds_of_wide 3 Tryz.f3 rfl rfl rfl rfl rfl rfl rfl ⟨rfl, rfl, rfl, rfl, rfl⟩ rfl rfl rfl rfl rfl (by kernel_rfl) Tryz.func3 closed
    (of_decide_eq_true (by kernel_rfl)) (by unfold Func.isWrapper;rw[if_neg (of_decide_eq_false (by kernel_rfl))];exact⟨rfl, rfl⟩)
    (fun os started H enc _=> lifted os started H enc)
end Go.Proofs.YtiigcapldngijaaGreat.vaultNew
namespace Go.Proofs.YtiigcapldngijaaGreat
theorem vaultNew_holds : Rows.VaultNewSaid:= vaultNew.over
#print axioms vaultNew_holds
end Go.Proofs.YtiigcapldngijaaGreat
