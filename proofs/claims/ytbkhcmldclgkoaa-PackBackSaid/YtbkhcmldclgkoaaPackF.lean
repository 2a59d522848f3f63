/- Layer 7: the laws' own types, read from memory. -/
import Derived.Test.YtbkhcmldclgkoaaPackE
import Derived.Test.YtbkhcmldclgkoaaFrame
namespace Go.Proofs.Ytbkhcmldclgkoaa
open Go.V Go.V.Pk
theorem i64_wf {n : Int} (h : (Lit.int .i64 n).wf = true) : -9223372036854775808 ≤ n ∧ n ≤ 9223372036854775807 := by simpa [Lit.wf, IntKind.min, IntKind.max, IntKind.signed, IntKind.bits] using h
theorem u64_wf {n : Int} (h : (Lit.int .u64 n).wf = true) : 0 ≤ n ∧ n ≤ 18446744073709551615 := by simpa [Lit.wf, IntKind.min, IntKind.max, IntKind.signed, IntKind.bits] using h
theorem len1 {α : Type} {l : List α} (h : l.length = 2) {a b : α} (h0 : l[0]? = some a) (h1 : l[1]? = some b) : l = [a, b] := by
  match l, h with
  | [x, y], _ => simp at h0 h1; rw [h0, h1]
theorem len3 {α : Type} {l : List α} (h : l.length = 3) {a b c : α} (h0 : l[0]? = some a) (h1 : l[1]? = some b) (h2 : l[2]? = some c) : l = [a, b, c] := by
  match l, h with
  | [x, y, z], _ => simp at h0 h1 h2; rw [h0, h1, h2]
theorem asks_open {H : Type} {enc : TypeId × Value → H} {W : World} {s : Sl} {ess : List (List Value)} (el : Elems enc Try.prog W T_donjonlaw07_Ask s ess) :
    ∃ q : List (Int × Int), q.length = s.len ∧ Rd W.heap s 2 (askC q) ∧ ∀ p ∈ q, p.2 ≤ 9223372036854775807 := by
  refine el.list (fun p : Int × Int => [.int .i64 p.1, .int .i64 p.2]) (fun p => p.2 ≤ 9223372036854775807) (fun es hl hr => ?_) (by kernel_rfl) (by decide) (fun x _ v hv => by simp at hv; rcases hv with rfl | rfl <;> rfl)
  have hc : Try.prog.cellsOf T_donjonlaw07_Ask = 2 := by kernel_rfl
  obtain ⟨v0, g0, r0⟩ := hr.fld 0 (o := 0) (n := 2) (by kernel_rfl) (by kernel_rfl) (by kernel_rfl) (by kernel_rfl) (by kernel_rfl) (by decide)
  obtain ⟨v1, g1, r1⟩ := hr.fld 1 (o := 1) (n := 2) (by kernel_rfl) (by kernel_rfl) (by kernel_rfl) (by kernel_rfl) (by kernel_rfl) (by decide)
  obtain ⟨n0, e0, w0⟩ := r0.int (k := .i64) (by kernel_rfl)
  obtain ⟨n1, e1, w1⟩ := r1.int (k := .i64) (by kernel_rfl)
  simp at e0 e1
  subst e0 e1
  exact ⟨(n0, n1), len1 (by rw [hl, hc]) g0 g1, (i64_wf w1).2⟩
end Go.Proofs.Ytbkhcmldclgkoaa
