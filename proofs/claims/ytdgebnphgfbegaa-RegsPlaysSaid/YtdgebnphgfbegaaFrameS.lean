/- How long a slice among the arguments can be, where the row bounds what its arguments hold. -/
import Derived.Test.YtdgebnphgfbegaaFrame
import Derived.SizedLaws
namespace Go.V
theorem Trod.sized {H : Type} {enc : TypeId × Value → H} {P : Program} {w : World} {t e : TypeId} {s : Sl} {d : DataW H} {ps : List MemPlace} {ts : List TypeId} {ds : List (DataW H)} (hu : P.underlying t = some (.slice e))
    (h : DataW.Trod enc P w 0 (fun _ => true) true t s.v d ps) (hsz : (DataW.weightsEach P ts ds).all (· ≤ reachBytes) = true) (j : Nat) (ht : ts[j]? = some t) (hd : ds[j]? = some d) : s.cap * P.bytesOf e ≤ reachBytes := by
  obtain ⟨f, hf⟩ := h
  obtain ⟨a, len, cap⟩ := s
  cases f with
  | zero => simp [DataW.trod] at hf
  | succ f =>
    simp only [Value.cells] at hf
    cases a with
    | none =>
      have : len = 0 ∧ cap = 0 := by
        cases len <;> cases cap <;> simp [DataW.trod, hu] at hf <;> simp
      rw [this.2]; simp
    | some a =>
      simp only [DataW.trod, hu] at hf
      split at hf
      · rename_i hc
        simp only [Option.bind_eq_some_iff, if_true, Option.map_eq_some_iff] at hf
        obtain ⟨elems, hel, rest, hre, heq⟩ := hf
        have h1 := (mapM_all hel).1
        have h2 := (mapM_all hre).1
        simp only [List.length_range] at h1 h2
        simp only [Prod.mk.injEq] at heq
        rw [← heq.1] at hd
        have := sized_slice hsz ht hd hu
        simp only [List.length_map, h1, h2] at this
        have e : len + (cap - len) = cap := by omega
        rw [e] at this
        exact this
      · cases hf
end Go.V
