/- Layer 11: both lists together, as sets of pages; the law RunsSets. -/
import Derived.Test.YtomlobgpeobnfaaRunsR
namespace Go.V.Rn
open Go.V
theorem has_cons (p : Int) (r : Run) (l : List Run) : hasB p (r :: l) = ((decide (p ≥ r.1) && decide (p < r.2)) || hasB p l) := by simp [hasB]
theorem has_app (p : Int) (l m : List Run) : hasB p (l ++ m) = (hasB p l || hasB p m) := by simp [hasB]
theorem has_before {p e : Int} {l : List Run} (h : okFrom e l = true) (hp : p ≤ e) : hasB p l = false := by
  rw [hasB, List.any_eq_false]
  intro x hx
  have := okFrom_beyond h x hx
  simp; intro; omega
/-- Two right lists with the same pages are the same. -/
theorem right_ext : ∀ {e e' : Int} {L M : List Run}, okFrom e L = true → okFrom e' M = true → (∀ p, hasB p L = hasB p M) → L = M
  | _, _, [], [], _, _, _ => rfl
  | e, e', [], b :: M, _, h, hs => by
    have := hs b.1
    simp only [okFrom, Bool.and_eq_true, decide_eq_true_eq] at h
    rw [has_cons] at this
    simp [hasB] at this; omega
  | e, e', a :: L, [], h, _, hs => by
    have := hs a.1
    simp only [okFrom, Bool.and_eq_true, decide_eq_true_eq] at h
    rw [has_cons] at this
    simp [hasB] at this; omega
  | e, e', a :: L, b :: M, hL, hM, hs => by
    simp only [okFrom, Bool.and_eq_true, decide_eq_true_eq] at hL hM
    have key : ∀ {a b : Run} {L M : List Run}, a.1 < a.2 → b.1 < b.2 → okFrom b.2 M = true → (∀ p, hasB p (a :: L) = hasB p (b :: M)) → b.1 ≤ a.1 := by
      intro a b L M h1 h2 h3 h
      have h4 := h a.1
      rcases Int.lt_or_le a.1 b.1 with h5 | h5
      · rw [has_cons, has_cons, has_before h3 (by omega)] at h4
        have h6 : ¬ a.1 ≥ b.1 := by omega
        simp [h1, h6] at h4
      · exact h5
    have e1 := key hL.1 hM.1 hM.2.2 hs
    have e2 := key hM.1 hL.1 hL.2.2 fun p => (hs p).symm
    have key2 : ∀ {a b : Run} {L M : List Run}, a.1 < a.2 → b.1 ≤ a.1 → okFrom a.2 L = true → (∀ p, hasB p (a :: L) = hasB p (b :: M)) → b.2 ≤ a.2 := by
      intro a b L M h1 h2 h3 h
      have h4 := h a.2
      rcases Int.lt_or_le a.2 b.2 with h5 | h5
      · rw [has_cons, has_cons, has_before h3 (by omega)] at h4
        have h6 : a.2 ≥ b.1 := by omega
        simp [h6, h5] at h4
      · exact h5
    have e3 := key2 hL.1 e1 hL.2.2 hs
    have e4 := key2 hM.1 e2 hM.2.2 fun p => (hs p).symm
    have hab : a = b := Prod.ext (by omega) (by omega)
    subst hab
    congr 1
    refine right_ext hL.2.2 hM.2.2 fun p => ?_
    have h5 := hs p
    rw [has_cons, has_cons] at h5
    rcases Int.lt_or_le p a.2 with h6 | h6
    · rw [has_before hL.2.2 (by omega), has_before hM.2.2 (by omega)]
    · have : decide (p < a.2) = false := by simp; omega
      simpa [this] using h5
def endF : Int → List Run → Int
  | e, [] => e
  | _, r :: l => endF r.2 l
theorem okFrom_snoc : ∀ (e : Int) (l : List Run) (r : Run), okFrom e (l ++ [r]) = (okFrom e l && (decide (r.1 < r.2) && decide (endF e l < r.1)))
  | e, [], r => by
    show (decide (r.1 < r.2) && (decide (e < r.1) && true)) = (true && (decide (r.1 < r.2) && decide (e < r.1)))
    rw [Bool.and_true, Bool.true_and]
  | e, a :: l, r => by
    show (decide (a.1 < a.2) && (decide (e < a.1) && okFrom a.2 (l ++ [r]))) = ((decide (a.1 < a.2) && (decide (e < a.1) && okFrom a.2 l)) && (decide (r.1 < r.2) && decide (endF a.2 l < r.1)))
    rw [okFrom_snoc a.2 l r, Bool.and_assoc, Bool.and_assoc]
theorem endF_snoc : ∀ (e : Int) (l : List Run) (r : Run), endF e (l ++ [r]) = r.2
  | e, [], r => rfl
  | e, a :: l, r => by simp only [List.cons_append, endF, endF_snoc a.2 l r]
theorem snoc_of_len {l : List Run} (h : 0 < l.length) : ∃ m r, l = m ++ [r] := by
  refine ⟨l.dropLast, l.getLast (by intro e; subst e; simp at h), (List.dropLast_concat_getLast _).symm⟩
theorem setTo_snoc (l : List Run) (r : Run) (z : Int) : setTo (l ++ [r]) ((l ++ [r]).length - 1) z = l ++ [(r.1, z)] := by
  have e : (l ++ [r]).length - 1 = l.length := by simp
  rw [e]; unfold setTo; rw [gr_app_right]; simp
theorem lastTo_snoc (l : List Run) (r : Run) : lastTo (l ++ [r]) = r.2 := by
  unfold lastTo; rw [List.length_append, List.length_singleton, Nat.add_sub_cancel, gr_app_right]
/-- What the last run of O begins at is at most m. -/
def Lead (O : List Run) (m : Int) : Prop := ∀ O' r, O = O' ++ [r] → r.1 ≤ m
theorem Lead.mono {O : List Run} {m m' : Int} (h : Lead O m) (hm : m ≤ m') : Lead O m' := fun O' r e => Int.le_trans (h O' r e) hm
theorem add_sem {O : List Run} {r : Run} {e : Int} (hO : okFrom e O = true) (hl : Lead O r.1) (hr : r.1 < r.2) (he : e < r.1) :
    okFrom e (addR O r) = true ∧ (∀ p, hasB p (addR O r) = (hasB p O || (decide (p ≥ r.1) && decide (p < r.2)))) ∧ Lead (addR O r) r.1 := by
  unfold addR
  by_cases hc : 0 < O.length ∧ r.1 ≤ lastTo O
  · rw [if_pos hc]
    obtain ⟨O', q, rfl⟩ := snoc_of_len hc.1
    have hq := hl O' q rfl
    rw [lastTo_snoc] at hc ⊢
    rw [setTo_snoc]
    rw [okFrom_snoc] at hO ⊢
    simp only [Bool.and_eq_true, decide_eq_true_eq] at hO
    have hm : q.2 ≤ iMax q.2 r.2 ∧ r.2 ≤ iMax q.2 r.2 ∧ (iMax q.2 r.2 = q.2 ∨ iMax q.2 r.2 = r.2) := by unfold iMax; split <;> omega
    generalize iMax q.2 r.2 = z at hm ⊢
    refine ⟨?_, fun p => ?_, fun O1 q1 e1 => ?_⟩
    · simp only [Bool.and_eq_true, decide_eq_true_eq]; exact ⟨hO.1, by omega, hO.2.2⟩
    · rw [has_app, has_app, Bool.or_assoc]
      congr 1
      simp only [hasB, List.any_cons, List.any_nil, Bool.or_false]
      rw [Bool.eq_iff_iff]
      simp only [Bool.or_eq_true, Bool.and_eq_true, decide_eq_true_eq]
      omega
    · have := (List.append_inj' e1 rfl).2
      cases this
      exact hq
  · rw [if_neg hc]
    refine ⟨?_, fun p => ?_, fun O1 q1 e1 => ?_⟩
    · rw [okFrom_snoc, hO]
      have : endF e O < r.1 := by
        rcases Nat.eq_zero_or_pos O.length with h0 | h0
        · rw [List.length_eq_zero_iff] at h0; subst h0; exact he
        · obtain ⟨O', q, rfl⟩ := snoc_of_len h0
          rw [lastTo_snoc] at hc
          rw [endF_snoc]
          have : ¬ r.1 ≤ q.2 := fun h => hc ⟨h0, h⟩
          omega
      simp [hr, this]
    · rw [has_app]; simp [hasB]
    · have := (List.append_inj' e1 rfl).2
      cases this
      exact Int.le_refl _
theorem both_sem : ∀ {O A B : List Run} {e ea eb : Int}, okFrom e O = true → okFrom ea A = true → okFrom eb B = true → e ≤ ea → e ≤ eb → (∀ r ∈ A, Lead O r.1) → (∀ r ∈ B, Lead O r.1) →
    okFrom e (bothF O A B) = true ∧ ∀ p, hasB p (bothF O A B) = (hasB p O || (hasB p A || hasB p B))
  | O, [], [], e, ea, eb, hO, _, _, _, _, _, _ => by rw [bothF]; exact ⟨hO, fun p => by simp [hasB]⟩
  | O, a :: ys, [], e, ea, eb, hO, hA, hB, h1, h2, lA, lB => by
    rw [bothF]
    simp only [okFrom, Bool.and_eq_true, decide_eq_true_eq] at hA
    obtain ⟨o1, o2, o3⟩ := add_sem hO (lA a List.mem_cons_self) hA.1 (by omega)
    obtain ⟨i1, i2⟩ := both_sem o1 hA.2.2 hB (by omega) h2 (fun r hr => o3.mono (by have := okFrom_beyond hA.2.2 r hr; omega)) (fun r hr => by cases hr)
    refine ⟨i1, fun p => ?_⟩
    rw [i2, o2, has_cons]; simp only [Bool.or_assoc]
  | O, [], b :: zs, e, ea, eb, hO, hA, hB, h1, h2, lA, lB => by
    rw [bothF]
    simp only [okFrom, Bool.and_eq_true, decide_eq_true_eq] at hB
    obtain ⟨o1, o2, o3⟩ := add_sem hO (lB b List.mem_cons_self) hB.1 (by omega)
    obtain ⟨i1, i2⟩ := both_sem o1 hA hB.2.2 h1 (by omega) (fun r hr => by cases hr) (fun r hr => o3.mono (by have := okFrom_beyond hB.2.2 r hr; omega))
    refine ⟨i1, fun p => ?_⟩
    rw [i2, o2, has_cons p b zs]; simp [hasB, Bool.or_assoc]
  | O, a :: ys, b :: zs, e, ea, eb, hO, hA, hB, h1, h2, lA, lB => by
    have hA' := hA
    have hB' := hB
    simp only [okFrom, Bool.and_eq_true, decide_eq_true_eq] at hA hB
    rw [bothF]
    split
    · rename_i hle
      obtain ⟨o1, o2, o3⟩ := add_sem hO (lA a List.mem_cons_self) hA.1 (by omega)
      obtain ⟨i1, i2⟩ := both_sem o1 hA.2.2 hB' (by omega) h2 (fun r hr => o3.mono (by have := okFrom_beyond hA.2.2 r hr; omega)) (fun r hr => o3.mono (by
        rcases List.mem_cons.1 hr with rfl | hr
        · exact hle
        · have := okFrom_beyond hB.2.2 r hr; omega))
      refine ⟨i1, fun p => ?_⟩
      rw [i2, o2, has_cons p a ys]; simp only [Bool.or_assoc]
    · rename_i hle
      obtain ⟨o1, o2, o3⟩ := add_sem hO (lB b List.mem_cons_self) hB.1 (by omega)
      obtain ⟨i1, i2⟩ := both_sem o1 hA' hB.2.2 h1 (by omega) (fun r hr => o3.mono (by
        rcases List.mem_cons.1 hr with rfl | hr
        · omega
        · have := okFrom_beyond hA.2.2 r hr; omega)) (fun r hr => o3.mono (by have := okFrom_beyond hB.2.2 r hr; omega))
      refine ⟨i1, fun p => ?_⟩
      rw [i2, o2, has_cons p b zs]
      cases hasB p O <;> cases (decide (p ≥ b.1) && decide (p < b.2)) <;> simp
termination_by _ A B => A.length + B.length
theorem both_right {A B : List Run} (hA : rightB A = true) (hB : rightB B = true) : rightB (bothR A B) = true ∧ ∀ p, hasB p (bothR A B) = (hasB p A || hasB p B) := by
  obtain ⟨h1, h2⟩ := both_sem (O := []) (e := -1) (by rfl) hA hB (Int.le_refl _) (Int.le_refl _) (fun _ _ O' r e => by simp at e) (fun _ _ O' r e => by simp at e)
  exact ⟨h1, fun p => by rw [bothR, h2]; simp [hasB]⟩
theorem both_comm {A B : List Run} (hA : rightB A = true) (hB : rightB B = true) : bothR A B = bothR B A := by
  obtain ⟨a1, a2⟩ := both_right hA hB
  obtain ⟨b1, b2⟩ := both_right hB hA
  exact right_ext a1 b1 fun p => by rw [a2, b2, Bool.or_comm]
theorem both_assoc {A B C : List Run} (hA : rightB A = true) (hB : rightB B = true) (hC : rightB C = true) : bothR (bothR A B) C = bothR A (bothR B C) := by
  obtain ⟨a1, a2⟩ := both_right hA hB
  obtain ⟨b1, b2⟩ := both_right hB hC
  obtain ⟨c1, c2⟩ := both_right a1 hC
  obtain ⟨d1, d2⟩ := both_right hA b1
  exact right_ext c1 d1 fun p => by rw [c2, a2, d2, b2, Bool.or_assoc]
theorem both_self {A : List Run} (hA : rightB A = true) : bothR A A = A := by
  obtain ⟨a1, a2⟩ := both_right hA hA
  exact right_ext a1 hA fun p => by rw [a2, Bool.or_self]
theorem both_u32 {A B : List Run} (hA : U32 A) (hB : U32 B) : U32 (bothR A B) := (bothF_u32 (out := []) (fun _ h => by cases h) hA hB).1
end Go.V.Rn
namespace Go.Proofs.Ytomlobgpeobnfaa
open Go.V Go.V.Rn Go.V.Pk
/-- Both of right lists. -/
theorem both_ok {a b : Sl} {w : World} {K : Sl → Int → World → Prop} {A B : List Run} (ha : RdR w.heap a A) (hb : RdR w.heap b B) (hua : U32 A) (hub : U32 B) (ra : rightB A = true) (rb : rightB B = true)
    (k : ∀ s w', OwnR w'.heap w.heap.size s (bothR A B) → Ext No w w' → K s 0 w') : C_runs_Both a b w K := by
  have h1 := right_len ra hua
  have h2 := right_len rb hub
  refine both_spec ha hb hua hub (by omega) (by omega) fun s w' o e => ?_
  rw [ra, rb] at o ⊢
  exact k s w' o e
theorem runsSets_spec {a b c : Sl} {w : World} {A B C : List Run} (ha : RdR w.heap a A) (hb : RdR w.heap b B) (hc : RdR w.heap c C) (hua : U32 A) (hub : U32 B) (huc : U32 C)
    (na : A.length ≤ 9223372036854775807) (nb : B.length ≤ 9223372036854775807) (nc : C.length ≤ 9223372036854775807) : C_law11_RunsSets a b c w (Tr w) := by
  apply S_law11_RunsSets
  refine ⟨fun w' => Ext No w w' ∧ rightB A = true ∧ rightB B = true ∧ rightB C = true, ?_, ?_⟩
  · refine right_spec ha hua na fun w1 e1 => If.not (If.cases (fun ra => ?_) (fun _ => known_tr e1))
    refine right_spec (hb.no e1) hub nb fun w2 e2 => If.not (If.cases (fun rb => ?_) (fun _ => known_tr (e1.no e2)))
    exact right_spec (hc.no (e1.no e2)) huc nc fun w3 e3 => If.not (If.cases (fun rc => ⟨(e1.no e2).no e3, ra, rb, rc⟩) (fun _ => known_tr ((e1.no e2).no e3)))
  · rintro _ w7 ⟨x7, ra, rb, rc⟩
    obtain ⟨rab, _⟩ := both_right ra rb
    obtain ⟨rbc, _⟩ := both_right rb rc
    obtain ⟨rabc, _⟩ := both_right rab rc
    have uab := both_u32 hua hub
    have ubc := both_u32 hub huc
    refine both_ok (ha.no x7) (hb.no x7) hua hub ra rb fun s1 w8 o1 e8 => ?_
    have x8 := x7.no e8
    refine both_ok (hb.no x8) (ha.no x8) hub hua rb ra fun s2 w9 o2 e9 => ?_
    have x9 := x8.no e9
    refine both_ok (hb.no x9) (hc.no x9) hub huc rb rc fun s3 w10 o3 e10 => ?_
    have x10 := x9.no e10
    refine both_ok (((o1.no e9).no e10).rd) (hc.no x10) uab huc rab rc fun s4 w11 o4 e11 => ?_
    have x11 := x10.no e11
    refine both_ok (ha.no x11) (o3.no e11).rd hua ubc ra rbc fun s5 w12 o5 e12 => ?_
    have x12 := x11.no e12
    refine both_ok (ha.no x12) (ha.no x12) hua hua ra ra fun s6 w13 o6 e13 => ?_
    have x13 := x12.no e13
    have l1 := right_len rab uab
    have l4 := right_len rabc (both_u32 uab huc)
    have l6 := right_len ra hua
    refine ⟨fun w' => w' = w13, ?_, ?_⟩
    · exact If.bne (fun h => absurd rfl h) fun _ => If.bne (fun h => absurd rfl h) fun _ => If.bne (fun h => absurd rfl h) fun _ => If.bne (fun h => absurd rfl h) fun _ => If.bne (fun h => absurd rfl h) fun _ => If.bne (fun h => absurd rfl h) fun _ => rfl
    · rintro _ _ rfl
      rw [both_comm rb ra] at o2
      rw [← both_assoc ra rb rc] at o5
      rw [both_self ra] at o6
      refine lawSame_spec (((((o1.no e9).no e10).no e11).no e12).no e13).rd ((((o2.no e10).no e11).no e12).no e13).rd (by omega) fun w15 e15 => If.cases (fun _ => ?_) (fun h => by simp at h)
      refine lawSame_spec (((o4.no e12).no e13).no e15).rd ((o5.no e13).no e15).rd (by omega) fun w16 e16 => If.cases (fun _ => ?_) (fun h => by simp at h)
      have x16 := (x13.no e15).no e16
      refine lawSame_spec ((o6.no e15).no e16).rd (ha.no x16) (by omega) fun w17 e17 => If.cases (fun _ => ?_) (fun h => by simp at h)
      refine right_spec (((((o4.no e12).no e13).no e15).no e16).no e17).rd (both_u32 uab huc) (by omega) fun w18 e18 => If.cases (fun _ => known_tr ((x16.no e17).no e18)) (fun h => by rw [rabc] at h; cases h)
end Go.Proofs.Ytomlobgpeobnfaa
