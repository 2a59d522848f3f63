/- Layer 11: the laws RunsMake and what opens an argument. -/
import Derived.Test.YtomlobgpeobnfaaRunsE
import Derived.Test.YtomlobgpeobnfaaFrame
namespace Go.Proofs.Ytomlobgpeobnfaa
open Go.V Go.V.Rn
section
variable {H : Type} {enc : TypeId × Value → H} {W : World}
theorem runs_open {s : Sl} {ess : List (List Value)} (h : Elems enc Try.prog W T_api_Run s ess) : ∃ L : List Run, L.length = s.len ∧ RdR W.heap s L ∧ U32 L := by
  obtain ⟨l, h1, h2, h3⟩ := h.list (fun r : Run => [.int .u32 r.1, .int .u32 r.2]) (fun r => 0 ≤ r.1 ∧ r.1 ≤ 4294967295 ∧ 0 ≤ r.2 ∧ r.2 ≤ 4294967295) (fun es hl hr => by
    obtain ⟨v0, g0, t0⟩ := hr.fld 0 (o := 0) (n := 2) (by kernel_rfl) (by kernel_rfl) (by kernel_rfl) (by kernel_rfl) (by kernel_rfl) (by decide)
    obtain ⟨v1, g1, t1⟩ := hr.fld 1 (o := 1) (n := 2) (by kernel_rfl) (by kernel_rfl) (by kernel_rfl) (by kernel_rfl) (by kernel_rfl) (by decide)
    obtain ⟨n0, e0, b0⟩ := t0.int (k := .u32) (by kernel_rfl)
    obtain ⟨n1, e1, b1⟩ := t1.int (k := .u32) (by kernel_rfl)
    cases e0; cases e1
    rw [show Try.prog.cellsOf T_api_Run = 2 by kernel_rfl] at hl
    refine ⟨(n0, n1), ?_, ?_⟩
    · match es, hl, g0, g1 with
      | [x, y], _, g0, g1 => simp at g0 g1; simp [g0, g1]
    · have h0 : 0 ≤ n0 ∧ n0 ≤ 4294967295 := by simpa [Lit.wf, IntKind.min, IntKind.max, IntKind.signed, IntKind.bits] using b0
      have h1 : 0 ≤ n1 ∧ n1 ≤ 4294967295 := by simpa [Lit.wf, IntKind.min, IntKind.max, IntKind.signed, IntKind.bits] using b1
      exact ⟨h0.1, h0.2, h1.1, h1.2⟩) (sz := 2) (by kernel_rfl) (by decide) (fun x _ v hv => by simp at hv; rcases hv with rfl | rfl <;> rfl)
  exact ⟨l, h1, h2, h3⟩
end
abbrev Tr (w : World) : Bool → World → Prop := fun b w' => b = true ∧ Ext No w w'
theorem known_tr {w w1 : World} (e : Ext No w w1) : C_law11_known w1 (fun r w' => Tr w r w') := known_spec fun _ e' => ⟨rfl, e.no e'⟩
theorem runsMake_spec {a b p : Int} {l : Sl} {w : World} {L : List Run} (h : RdR w.heap l L) (hu : U32 L) (hn : L.length ≤ 9223372036854775807) : C_law11_RunsMake a b l p w (Tr w) := by
  apply S_law11_RunsMake
  refine make_spec fun s w1 own ext => ?_
  have ls := OwnR.len own
  refine ⟨fun w' => w' = w1, ?_, ?_⟩
  · by_cases hab : a ≥ b
    · have hm : mkR a b = [] := by unfold mkR; rw [if_pos hab]
      rw [hm] at ls
      simp only [List.length_nil] at ls
      exact If.dec (fun h => by omega) (fun _ => If.dec (fun _ => If.bne (fun h => by omega) (fun _ => rfl)) (fun h => absurd hab h))
    · have hm : mkR a b = [(a, b)] := by unfold mkR; rw [if_neg hab]
      rw [hm] at ls own
      simp only [List.length_cons, List.length_nil] at ls
      refine If.dec (fun _ => If.bne (fun h => by omega) (fun _ => Ix.run own.rd (by omega) (by omega) fun _ _ _ c1 c2 => ⟨_, c1, _, c2, If.not (If.cases (fun _ => If.dec (fun h => absurd h hab) (fun _ => rfl)) (fun h => by simp [gr] at h))⟩)) (fun h => by omega)
  · rintro _ w2 rfl
    refine right_spec (h.no ext) hu hn fun w3 ext3 => count_spec (h.no (ext.no ext3)) hu hn fun w4 ext4 => has_spec (h.no ((ext.no ext3).no ext4)) hu hn fun w5 ext5 => ?_
    have ext5' := ((ext.no ext3).no ext4).no ext5
    refine refRight_spec (h.no ext5') hu hn fun w6 ext6 => ?_
    have ext6' := ext5'.no ext6
    refine If.not (If.cases (fun _ => If.not (If.cases (fun hr => ?_) (fun hr => ?_))) (fun h => by simp at h))
    · rw [hr]
      refine refCount_spec (h.no ext6') hu hn hr fun w7 ext7 => If.beq (fun _ => If.beq (fun _ => refHas_spec (h.no (ext6'.no ext7)) hn (If.cases (fun _ => If.beq (fun _ => known_tr (ext6'.no ext7)) (fun h => by simp at h)) (fun h => by simp at h))) (fun h => by simp at h)) (fun h => by simp at h)
    · rw [hr]
      exact If.beq (fun _ => If.beq (fun _ => If.not (If.cases (fun h => by simp at h) (fun _ => If.beq (fun _ => known_tr ext6') (fun h => by simp at h)))) (fun h => by simp at h)) (fun h => by simp at h)
end Go.Proofs.Ytomlobgpeobnfaa
