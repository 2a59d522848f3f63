/- Layer 11: the law RunsTakes. -/
import Derived.Test.YtomlobgpeobnfaaRunsO
namespace Go.Proofs.Ytomlobgpeobnfaa
open Go.V Go.V.Rn Go.V.Pk
theorem drop_below {p : Int} : ∀ {M : List Run}, (∀ r ∈ M, p < r.1) → dropR p M = M
  | [], _ => rfl
  | r :: M, h => by
    have ih := drop_below (M := M) fun x hx => h x (List.mem_cons_of_mem _ hx)
    have h1 := h r List.mem_cons_self
    simp only [dropR, List.flatMap_cons] at ih ⊢
    rw [ih, drop1, if_pos (.inl h1)]; rfl
theorem drop_first {e : Int} {r : Run} {M : List Run} (h : okFrom e (r :: M) = true) : dropR r.1 (r :: M) = takeR (r :: M) := by
  simp only [okFrom, Bool.and_eq_true, decide_eq_true_eq] at h
  have hb : dropR r.1 M = M := drop_below fun x hx => by have := okFrom_beyond h.2.2 x hx; omega
  have e1 : drop1 r.1 r = mkR (r.1 + 1) r.2 := by
    unfold drop1; rw [if_neg (by omega), show mkR r.1 r.1 = [] by unfold mkR; rw [if_pos (by omega)]]; rfl
  show drop1 r.1 r ++ dropR r.1 M = _
  rw [hb, e1]; rfl
theorem runsTakes_spec {l : Sl} {w : World} {L : List Run} (h : RdR w.heap l L) (hu : U32 L) (hn : L.length ≤ 17592186044416) : C_law11_RunsTakes l w (Tr w) := by
  apply S_law11_RunsTakes
  have hl := h.len
  refine own_spec h hn fun s1 w1 o1 ext1 => ?_
  refine take_spec o1.rd hu (by omega) (fun hr w2 ext2 => ?_) (fun hL w2 ext2 => ?_) (fun r M hL hr s2 w2 o2 ext2 => ?_)
  · refine refSame_spec (o1.rd.no ext2) (h.no (ext1.no ext2)) (by omega) fun w3 ext3 => If.not (If.cases (fun _ => ?_) (fun h => by simp at h))
    refine refRight_spec (h.no ((ext1.no ext2).no ext3)) hu (by omega) fun w4 ext4 => If.not (If.cases (fun h => by rw [hr] at h; cases h) (fun _ => ?_))
    exact If.beq (fun _ => If.beq (fun _ => If.beq (fun _ => known_tr (((ext1.no ext2).no ext3).no ext4)) (fun h => by simp at h)) (fun h => by simp at h)) (fun h => by simp at h)
  · subst hL
    refine refSame_spec (o1.rd.no ext2) (h.no (ext1.no ext2)) (by omega) fun w3 ext3 => If.not (If.cases (fun _ => ?_) (fun h => by simp at h))
    refine refRight_spec (h.no ((ext1.no ext2).no ext3)) hu (by omega) fun w4 ext4 => If.not (If.cases (fun _ => ?_) (fun h => by simp [rightB, okFrom] at h))
    simp only [List.length_nil] at hl
    exact If.beq (fun _ => If.beq (fun _ => If.beq (fun _ => If.beq (fun _ => known_tr (((ext1.no ext2).no ext3).no ext4)) (fun h => by simp at h)) (fun h => by simp at h)) (fun h => by simp at h)) (fun h => by omega)
  · subst hL
    have hlen := right_len hr hu
    have hr0 := hu.head
    have x2 := ext1.no ext2
    have uT := takeR_u32 hu
    have hTr := okFrom_right (take_plain hr).1 (by omega)
    have nT := right_len hTr uT
    refine refSame_spec (o1.rd.no ext2) (h.no x2) (by omega) fun w3 ext3 => If.not (If.cases (fun _ => ?_) (fun h => by simp at h))
    have x3 := x2.no ext3
    refine refRight_spec (h.no x3) hu (by omega) fun w4 ext4 => If.not (If.cases (fun _ => ?_) (fun h => by rw [hr] at h; cases h))
    have x4 := x3.no ext4
    refine If.beq (fun h0 => by simp only [List.length_cons] at hl; omega) (fun _ => ⟨fun w' => Ext No w2 w', ?_, ?_⟩)
    · refine If.bne (fun h => absurd rfl h) (fun _ => Ix.run (h.no x4) (by omega) (by simp only [List.length_cons] at hl; omega) fun _ _ _ c1 _ => ⟨_, c1, If.bne (fun h => absurd rfl h) (fun _ => ?_)⟩)
      refine refDrop_spec (h.no x4) hu hr0.1 hlen fun s5 w5 o5 ext5 => ?_
      rw [drop_first hr] at o5
      exact refSame_spec (((o2.rd.no ext3).no ext4).no ext5) o5.rd (by omega) fun w6 ext6 => If.not (If.cases (fun _ => ((ext3.no ext4).no ext5).no ext6) (fun h => by simp at h))
    · intro _ w9 ext9
      have o9 := o2.no ext9
      refine spoil_spec o9 (by omega) fun w10 ext10 => ?_
      have sp : Ext No w1 w10 := (ext2.no ext9).trans ext10 fun i hi hb => by have := (o9.lt hb).1; omega
      exact refSame_spec (o1.rd.no sp) (h.no (ext1.no sp)) (by omega) fun w11 ext11 => If.cases (fun _ => known_tr ((ext1.no sp).no ext11)) (fun h => by simp at h)
end Go.Proofs.Ytomlobgpeobnfaa
