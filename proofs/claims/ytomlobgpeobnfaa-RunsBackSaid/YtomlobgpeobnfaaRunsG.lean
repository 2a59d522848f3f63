/- Layer 11: the law RunsTaken. -/
import Derived.Test.YtomlobgpeobnfaaRunsF
namespace Go.Proofs.Ytomlobgpeobnfaa
open Go.V Go.V.Rn
theorem okFrom_mono : ∀ {e e' : Int} {l : List Run}, okFrom e l = true → e' ≤ e → okFrom e' l = true
  | e, e', [], _, _ => rfl
  | e, e', r :: l, h, he => by
    simp only [okFrom, Bool.and_eq_true, decide_eq_true_eq] at h ⊢
    exact ⟨h.1, by omega, h.2.2⟩
theorem okFrom_right {e : Int} {l : List Run} (h : okFrom e l = true) (he : -1 ≤ e) : rightB l = true := okFrom_mono h he
theorem takeR_cons (r : Run) (M : List Run) : takeR (r :: M) = mkR (r.1 + 1) r.2 ++ M := rfl
theorem take_plain {e : Int} {r : Run} {M : List Run} (h : okFrom e (r :: M) = true) : okFrom r.1 (takeR (r :: M)) = true ∧ countI (takeR (r :: M)) = countI (r :: M) - 1 ∧ (∀ p, hasB p (takeR (r :: M)) = true → hasB p (r :: M) = true) ∧ hasB r.1 (r :: M) = true := by
  simp only [okFrom, Bool.and_eq_true, decide_eq_true_eq] at h
  have h4 : hasB r.1 (r :: M) = true := by simp [hasB, h.1]
  rw [takeR_cons]; unfold mkR
  split
  · refine ⟨okFrom_mono h.2.2 (by omega), by simp only [List.nil_append, countI]; omega, fun p hp => ?_, h4⟩
    simp only [hasB, List.nil_append, List.any_cons] at hp ⊢
    rw [hp]; simp
  · refine ⟨?_, by simp only [List.cons_append, List.nil_append, countI]; omega, fun p hp => ?_, h4⟩
    · simp only [List.cons_append, List.nil_append, okFrom, Bool.and_eq_true, decide_eq_true_eq]
      exact ⟨by omega, by omega, h.2.2⟩
    · simp only [hasB, List.cons_append, List.nil_append, List.any_cons, Bool.or_eq_true, Bool.and_eq_true, decide_eq_true_eq] at hp ⊢
      rcases hp with hp | hp
      · exact .inl ⟨by omega, hp.2⟩
      · exact .inr hp
theorem takeR_u32 {r : Run} {M : List Run} (h : U32 (r :: M)) : U32 (takeR (r :: M)) := by
  have hr := h.head
  rw [takeR_cons]; unfold mkR
  split
  · exact h.tail
  · exact U32.app (fun x hx => by simp at hx; subst hx; simp only; omega) h.tail
theorem count_pos {e : Int} {r : Run} {M : List Run} (h : okFrom e (r :: M) = true) : 0 < countI (r :: M) := by
  simp only [okFrom, Bool.and_eq_true, decide_eq_true_eq] at h
  have := countI_nonneg h.2.2
  simp only [countI]; omega
theorem runsTaken_spec {l : Sl} {w : World} {L : List Run} (h : RdR w.heap l L) (hu : U32 L) (hn : L.length ≤ 9223372036854775807) : C_law11_RunsTaken l w (Tr w) := by
  apply S_law11_RunsTaken
  refine right_spec h hu hn fun w1 ext1 => If.not (If.cases (fun hr => ?_) (fun hr => known_tr ext1))
  refine count_spec (h.no ext1) hu hn fun w2 ext2 => ?_
  have ext2' := ext1.no ext2
  rw [hr]
  refine If.bne (fun h => by simp at h) (fun _ => ?_)
  simp only [if_true]
  have hc := countI_range hr hu (by omega) (by omega)
  refine ⟨fun m rest last i w' => ∃ R : List Run, RdR w'.heap rest R ∧ U32 R ∧ R.length ≤ 9223372036854775807 ∧ okFrom last R = true ∧ -1 ≤ last ∧ last ≤ 4294967295 ∧ 0 ≤ i ∧ i ≤ 300 ∧ countI R = countI L - i ∧ (∀ p, hasB p R = true → hasB p L = true) ∧ m = (300 - i).toNat ∧ Ext No w w',
    ⟨_, L, h.no ext2', hu, hn, hr, by omega, by omega, by omega, by omega, by omega, fun _ h => h, rfl, ext2'⟩, ?_⟩
  rintro _ m rest last i w3 ⟨R, rd, uR, nR, okR, hl0, hl1, hi0, hi1, hcR, hin, rfl, ext3⟩
  have hRr := okFrom_right okR hl0
  have hc0 := countI_nonneg okR
  refine Nm.mk (If.dec (fun hlt => ?_) (fun hge => ?_))
  · have hi2 : i < countI L ∧ i < 300 := by unfold iMin at hlt; split at hlt <;> omega
    refine take_spec rd uR nR (fun h => by rw [hRr] at h; cases h) (fun h => by subst h; simp only [countI] at hcR; omega) fun r M hR _ s4 w4 own4 ext4 => ?_
    subst hR
    obtain ⟨t1, t2, t3, t4⟩ := take_plain okR
    have hr0 := uR.head
    have uT := takeR_u32 uR
    have hb := okFrom_beyond okR r List.mem_cons_self
    have hTr := okFrom_right t1 (by omega)
    have nT := right_len hTr uT
    have ext4' := ext3.no ext4
    refine has_spec (h.no ext4') hu hn fun w5 ext5 => count_spec (own4.rd.no ext5) uT (by omega) fun w6 ext6 => ?_
    rw [hr, hTr]
    refine If.bne (fun h => by simp at h) (fun _ => If.bne (fun h => by simp at h) (fun _ => If.bne (fun h => by simp at h) (fun _ => If.not (If.cases (fun _ => ?_) (fun h => by rw [hin _ t4] at h; simp at h)))))
    refine Ar.i64 (by omega) (If.dec (fun h => by omega) (fun _ => Ar.u64 (by omega) (Ar.u64 (by omega) (If.bne (fun h => ?_) (fun _ => Ar.i64 (by omega) (Ar.u64 (by omega) ⟨_, ?_, takeR (r :: M), (own4.rd.no ext5).no ext6, uT, by omega, t1, by omega, by omega, by omega, by omega, by omega, fun p hp => hin p (t3 p hp), rfl, (ext4'.no ext5).no ext6⟩))))))
    · simp only [if_true] at h; omega
    · omega
  · have kn : ∀ w', Ext No w3 w' → C_law11_known w' (fun r w'' => Tr w r w'') := fun w' e => known_tr (ext3.no e)
    by_cases h300 : countI L > 300
    · refine take_spec rd uR nR (fun _ w4 e4 => If.dec (fun _ => kn w4 e4) (fun h => absurd h300 h)) (fun _ w4 e4 => If.dec (fun _ => kn w4 e4) (fun h => absurd h300 h)) (fun r M _ _ s4 w4 _ e4 => If.dec (fun _ => kn w4 e4) (fun h => absurd h300 h))
    · have hi2 : countI L ≤ i := by unfold iMin at hge; split at hge <;> omega
      refine take_spec rd uR nR (fun h => by rw [hRr] at h; cases h) (fun _ w4 e4 => If.dec (fun h => absurd h h300) (fun _ => If.beq (fun _ => If.beq (fun _ => kn w4 e4) (fun h => by simp at h)) (fun h => by simp at h))) (fun r M hR _ s4 w4 _ e4 => ?_)
      subst hR
      have := count_pos okR
      omega
end Go.Proofs.Ytomlobgpeobnfaa
