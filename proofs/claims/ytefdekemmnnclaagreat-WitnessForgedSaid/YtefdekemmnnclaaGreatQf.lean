/- WitnessForged: for every input the law returns true, and each argument reads as it did. -/
import Derived.Test.YtefdekemmnnclaaGreatRows
import Derived.Test.YtefdekemmnnclaaGreatQf17
namespace Go.Proofs.YtefdekemmnnclaaGreat.witnessForged
open Go.V Go.ChangeShapes Go.WideShapes Go.ChangeAt Go.RowKit
open Go.ChangeMaps (open_string shut_string)
theorem own : ownKnob Tryz.prog.godebug = none:= by kernel_rfl
theorem laidOut : laidOutB Tryz.prog = true:= by kernel_rfl
set_option maxRecDepth 100000 in
theorem lifted (os : Os) (started : os.Started) (H : Type) (enc : TypeId × Value → H) :
    ReturnsInHanded {} Tryz.checked os 3 .any (Rows.witnessForgedSpec.pre6 enc Tryz.prog Tryz.f3 Rows.witnessForgedRow.domain false) (Rows.witnessForgedSpec.post enc Tryz.prog Tryz.f3 false true false false):= by
  refine returnsInHanded_of_change (C:= Tryz.checked) own started (by kernel_rfl) Tryz.func3
    (ChangeSpec.witness6 (enc:= enc) (C:= Tryz.checked) false ⟨#[], #[.slice none 0 0,.slice none 0 0,.int .u32 0,.slice none 0 0,.slice none 0 0,.agg #[.int .u32 0,.int .u8 0,.int .u8 0,.int .u32 0,.int .u64 0,.int .u16 0]], []⟩ 8 (by kernel_rfl) (by kernel_rfl) (by kernel_rfl) (by kernel_rfl)) ?_
  intro W base args ds gs before acG hW _ _
  have Gx : ∀(j : Nat) t v, Tryz.f3.params[j]? = some t → args[j]? = some v → Value.okWide Tryz.prog W .any base t v:= acG
  have hW' := hW
  obtain⟨p, q, hA0, hV, rfl, _, _⟩ := hW
  have hA : DataW.TrodAll enc Tryz.prog W 0 (fun _=> true) true Tryz.f3.params.toList args.toList ds p:= hA0
  rw[Tryz.params3]at hA Gx
  obtain⟨v0, vs0, d0, ds0, p0, q0, ae2, rfl, rfl, h0, r0⟩ := trodAll_cons hA
  obtain⟨v1, vs1, d1, ds1, p1, q1, rfl, rfl, rfl, h1, r1⟩ := trodAll_cons r0
  obtain⟨v2, vs2, d2, ds2, p2, q2, rfl, rfl, rfl, h2, r2⟩ := trodAll_cons r1
  obtain⟨v3, vs3, d3, ds3, p3, q3, rfl, rfl, rfl, h3, r3⟩ := trodAll_cons r2
  obtain⟨v4, vs4, d4, ds4, p4, q4, rfl, rfl, rfl, h4, r4⟩ := trodAll_cons r3
  obtain⟨v5, vs5, d5, ds5, p5, q5, rfl, rfl, rfl, h5, r5⟩ := trodAll_cons r4
  obtain⟨rfl, rfl, rfl⟩ := trodAll_nil r5
  obtain rfl : args = #[v0, v1, v2, v3, v4, v5] := by cases args;simp_all
  obtain⟨rfl, rfl⟩ := trodVars_none hV
  have lt0 : ∀x ∈ p0, x.block < W.heap.size:= by obtain⟨m, hm⟩ := h0;exact DataW.trod_lt m _ _ _ hm
  have ZG : ∀x ∈ p1, x.block < W.heap.size:= by obtain⟨m, hm⟩ := h1;exact DataW.trod_lt m _ _ _ hm
  have L6 : ∀x ∈ p2, x.block < W.heap.size:= by obtain⟨m, hm⟩ := h2;exact DataW.trod_lt m _ _ _ hm
  have TY : ∀x ∈ p3, x.block < W.heap.size:= by obtain⟨m, hm⟩ := h3;exact DataW.trod_lt m _ _ _ hm
  have JK : ∀x ∈ p4, x.block < W.heap.size:= by obtain⟨m, hm⟩ := h4;exact DataW.trod_lt m _ _ _ hm
  have lt5 : ∀x ∈ p5, x.block < W.heap.size:= by obtain⟨m, hm⟩ := h5;exact DataW.trod_lt m _ _ _ hm
  obtain⟨a0, rfl, afS, el0⟩ : ∃s : Sl, v0 = s.v ∧ ∃iL, pG enc Tryz.prog W 25 s iL:= by
    obtain⟨sa, sl, sc, rfl⟩ := okWide_slice Tryz.underlying22 (Gx 0 22 v0 rfl rfl)
    obtain⟨s, hs, iL, P_⟩ := zY.slice Tryz.underlying22 (Trod.tyR h0)
    simp only[Value.cells, List.cons.injEq, and_true]at hs
    exact⟨s, hs, iL, P_⟩
  obtain⟨a1, rfl, afT, el1⟩ : ∃s : Sl, v1 = s.v ∧ ∃iL, pG enc Tryz.prog W 24 s iL:= by
    obtain⟨sa, sl, sc, rfl⟩ := okWide_slice Tryz.underlying23 (Gx 1 23 v1 rfl rfl)
    obtain⟨s, hs, iL, P_⟩ := zY.slice Tryz.underlying23 (Trod.tyR h1)
    simp only[Value.cells, List.cons.injEq, and_true]at hs
    exact⟨s, hs, iL, P_⟩
  obtain⟨a2, rfl, wf2⟩ : ∃n, v2 = .int .u32 n ∧ (Lit.int .u32 n).wf = true:= by obtain⟨x, e1, _, _, wx⟩ := open_int Tryz.underlying24 (Gx 2 24 v2 rfl rfl) h2;exact⟨x, e1, wx⟩
  obtain⟨a3, rfl, afU, el3⟩ : ∃s : Sl, v3 = s.v ∧ ∃iL, pG enc Tryz.prog W 5 s iL:= by
    obtain⟨sa, sl, sc, rfl⟩ := okWide_slice Tryz.underlying25 (Gx 3 25 v3 rfl rfl)
    obtain⟨s, hs, iL, P_⟩ := zY.slice Tryz.underlying25 (Trod.tyR h3)
    simp only[Value.cells, List.cons.injEq, and_true]at hs
    exact⟨s, hs, iL, P_⟩
  obtain⟨a4, rfl, afV, el4⟩ : ∃s : Sl, v4 = s.v ∧ ∃iL, pG enc Tryz.prog W 5 s iL:= by
    obtain⟨sa, sl, sc, rfl⟩ := okWide_slice Tryz.underlying25 (Gx 4 25 v4 rfl rfl)
    obtain⟨s, hs, iL, P_⟩ := zY.slice Tryz.underlying25 (Trod.tyR h4)
    simp only[Value.cells, List.cons.injEq, and_true]at hs
    exact⟨s, hs, iL, P_⟩
  obtain⟨cs5, rfl, aeQ⟩ := okWide_struct Tryz.underlying31 (Gx 5 31 v5 rfl rfl)
  have ty5 : zY enc Tryz.prog W 31 cs5.toList:= Trod.tyR h5
  obtain⟨b5, hq5, ok5⟩ := Zu rfl (by rw[Array.length_toList, aeQ];kernel_rfl) ty5
  obtain rfl : cs5 = (ZW b5).toArray:= by rw[← hq5]
  have aeR : gg a0 a1 a2 a3 a4 b5.t b5.kd b5.lv b5.pg b5.cm b5.gn W fun b w' => b = true ∧ Ext No W w' := by
    obtain⟨k0, ks0⟩ := PM el0
    obtain⟨l1, Nq, b1⟩ := el1.ints (k:= .u32) (by kernel_rfl) (by kernel_rfl)
    obtain⟨l3, rd3, b3⟩ := el3.bytes (by kernel_rfl) (by kernel_rfl)
    obtain⟨l4, rd4, b4⟩ := el4.bytes (by kernel_rfl) (by kernel_rfl)
    exact yb ks0 Nq (fun t ht=> by have:= b1 t ht;simpa[IntKind.min, IntKind.max, IntKind.signed, IntKind.bits] using this) (by have:= yc wf2;simpa[IntKind.min, IntKind.max, IntKind.signed, IntKind.bits] using this) rd3 b3 rd4 b4 ok5 fun w1 x1=> ⟨rfl, x1⟩
  refine Calls.mono aeR fun e W' ⟨b, he, hb, ext⟩=> ?_
  subst hb he
  have Zv:= ext.below
  exact⟨_, rfl, _, _, _, [], _, [], hW', trodAll_mk1 (shut_bool Tryz.underlying4 _), trodAll_cons_mk (Below.trod laidOut (by kernel_rfl) (of_decide_eq_true (by kernel_rfl)) h0 Zv lt0) (trodAll_cons_mk (Below.trod laidOut (by kernel_rfl) (of_decide_eq_true (by kernel_rfl)) h1 Zv ZG) (trodAll_cons_mk (Below.trod laidOut (by kernel_rfl) (of_decide_eq_true (by kernel_rfl)) h2 Zv L6) (trodAll_cons_mk (Below.trod laidOut (by kernel_rfl) (of_decide_eq_true (by kernel_rfl)) h3 Zv TY) (trodAll_cons_mk (Below.trod laidOut (by kernel_rfl) (of_decide_eq_true (by kernel_rfl)) h4 Zv JK) (trodAll_cons_mk (Below.trod laidOut (by kernel_rfl) (of_decide_eq_true (by kernel_rfl)) h5 Zv lt5) (trodAll_mk0)))))), rfl, Zv.frame _, fun h=> by cases h⟩
theorem jk {a b : Bool} (h : a = true) (k : b = true) : (a && b) = true:= by rw[h, k];rfl
set_option maxRecDepth 100000 in
theorem jf3 : mapsRowed Tryz.prog = true:= by kernel_rfl
set_option maxRecDepth 100000 in
theorem aeS : (Rows.witnessForgedRow.inPlace == Tryz.prog.inPlace 3) = true:= by kernel_rfl
set_option maxRecDepth 100000 in
theorem aeT : (Rows.witnessForgedRow.unfollowed == Tryz.prog.unfollowed 3) = true:= by kernel_rfl
set_option maxRecDepth 100000 in
theorem aeU : (Rows.witnessForgedRow.recurses == Tryz.prog.recurses 3) = true:= by kernel_rfl
set_option maxRecDepth 100000 in
theorem aeV : (Rows.witnessForgedRow.named == Tryz.prog.varsNamed 3) = true:= by kernel_rfl
set_option maxRecDepth 100000 in
theorem aeW : Tryz.prog.stopsHeard = true:= by kernel_rfl
set_option maxRecDepth 100000 in
theorem aeX : Tryz.prog.mayEnter = true:= by kernel_rfl
set_option maxRecDepth 100000 in
theorem closed : joinedFacts Tryz.prog 3 Tryz.f3 Rows.witnessForgedSpec Rows.witnessForgedRow = true:= by
  unfold joinedFacts
  exact(jk (jk (jk (jk (jk (jk (jk (jk (jk (jk (jk (jk (jk (jk (jk (jk (jk (jk (jk (jk (jk (jk (jk (jk (jk (jk (jk (jk (jk (jk (jk (by kernel_rfl) laidOut) jf3) (by kernel_rfl)) (by kernel_rfl)) (by kernel_rfl)) (by kernel_rfl)) (by kernel_rfl)) (by kernel_rfl)) aeS) aeT) aeU) aeV) (by kernel_rfl)) (by kernel_rfl)) (by kernel_rfl)) (by kernel_rfl)) (by kernel_rfl)) (by kernel_rfl)) (by kernel_rfl)) (by kernel_rfl)) (by kernel_rfl)) (by kernel_rfl)) (by kernel_rfl)) aeW) aeX) (by kernel_rfl)) (by kernel_rfl)) (by kernel_rfl)) (by kernel_rfl)) (by kernel_rfl)) (by kernel_rfl))
theorem over : Rows.witnessForgedRow.holds Tryz.pinned (OpenSpec.ofChange Rows.witnessForgedSpec):=
  OpenClaim.holds_of_wide 3 Tryz.f3 rfl rfl rfl rfl rfl rfl rfl ⟨rfl, rfl, rfl, rfl, rfl⟩ rfl rfl rfl rfl rfl (by kernel_rfl) Tryz.func3 closed
    (of_decide_eq_true (by kernel_rfl)) (by unfold Func.isWrapper;rw[if_neg (of_decide_eq_false (by kernel_rfl))];exact⟨rfl, rfl⟩)
    (fun os started H enc _=> lifted os started H enc)
end Go.Proofs.YtefdekemmnnclaaGreat.witnessForged
namespace Go.Proofs.YtefdekemmnnclaaGreat
theorem witnessForged_holds : Rows.WitnessForgedSaid:= witnessForged.over
#print axioms witnessForged_holds
end Go.Proofs.YtefdekemmnnclaaGreat
