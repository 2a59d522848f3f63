/- Layer 11: there and back; the law RunsBack. -/
import Derived.Test.YtomlobgpeobnfaaRunsU
import Derived.Test.YtomlobgpeobnfaaPackPlainB
namespace Go.Proofs.Ytomlobgpeobnfaa
open Go.V Go.V.Rn Go.V.Pk
theorem drop_sem {p : Int} : ∀ {e : Int} {L : List Run}, okFrom e L = true → okFrom e (dropR p L) = true ∧ ∀ q, hasB q (dropR p L) = (hasB q L && decide (q ≠ p))
  | e, [], _ => by simp [dropR, okFrom, hasB]
  | e, r :: L, h => by
    simp only [okFrom, Bool.and_eq_true, decide_eq_true_eq] at h
    obtain ⟨i1, i2⟩ := drop_sem (p := p) h.2.2
    have e1 : dropR p (r :: L) = drop1 p r ++ dropR p L := rfl
    rw [e1]
    by_cases hc : p < r.1 ∨ p ≥ r.2
    · rw [drop1, if_pos hc]
      refine ⟨?_, fun q => ?_⟩
      · simp only [List.singleton_append, okFrom, Bool.and_eq_true, decide_eq_true_eq]; exact ⟨h.1, h.2.1, i1⟩
      · rw [has_app, i2, has_cons]
        simp only [hasB, List.any_cons, List.any_nil, Bool.or_false]
        rw [Bool.eq_iff_iff]
        simp only [Bool.or_eq_true, Bool.and_eq_true, decide_eq_true_eq]
        constructor
        · rintro (h1 | h1)
          · exact ⟨.inl h1, by omega⟩
          · exact ⟨.inr h1.1, h1.2⟩
        · rintro ⟨h1 | h1, h2⟩
          · exact .inl h1
          · exact .inr ⟨h1, h2⟩
    · rw [drop1, if_neg hc]
      refine ⟨?_, fun q => ?_⟩
      · unfold mkR
        split <;> split <;> simp only [List.nil_append, List.append_nil, List.cons_append, okFrom, Bool.and_eq_true, decide_eq_true_eq]
        · exact okFrom_mono i1 (by omega)
        · exact ⟨by omega, by omega, i1⟩
        · exact ⟨by omega, by omega, okFrom_mono i1 (by omega)⟩
        · exact ⟨by omega, by omega, by omega, by omega, i1⟩
      · rw [has_app, i2, has_cons, has_app]
        have m : ∀ a b : Int, hasB q (mkR a b) = (decide (q ≥ a) && decide (q < b)) := by
          intro a b; unfold mkR; split
          · symm; simp [hasB]; omega
          · simp [hasB]
        rw [m, m, Bool.eq_iff_iff]
        simp only [Bool.or_eq_true, Bool.and_eq_true, decide_eq_true_eq]
        constructor
        · rintro ((h1 | h1) | h1)
          · exact ⟨.inl (by omega), by omega⟩
          · exact ⟨.inl (by omega), by omega⟩
          · exact ⟨.inr h1.1, h1.2⟩
        · rintro ⟨h1 | h1, h2⟩
          · exact .inl (by omega)
          · exact .inr ⟨h1, h2⟩
theorem drop_u32 {p : Int} (hp : 0 ≤ p) {L : List Run} (hu : U32 L) : U32 (dropR p L) := by
  intro x hx
  simp only [dropR, List.mem_flatMap] at hx
  obtain ⟨r, hr, hx⟩ := hx
  have := hu r hr
  unfold drop1 at hx
  split at hx
  · simp at hx; subst hx; exact this
  · rename_i hc
    rcases List.mem_append.1 hx with h | h
    · unfold mkR at h; split at h
      · cases h
      · simp at h; subst h; exact ⟨by omega, by omega, by simp only; omega, by simp only; omega⟩
    · unfold mkR at h; split at h
      · cases h
      · simp at h; subst h; exact ⟨by simp only; omega, by simp only; omega, by omega, by omega⟩
theorem give_drop {p : Int} (hp : 0 ≤ p) {L : List Run} (hr : rightB L = true) (hh : hasB p L = false) : dropR p (bothR L [(p, p + 1)]) = L := by
  obtain ⟨m1, m2⟩ := mk_one hp
  obtain ⟨b1, b2⟩ := both_right hr m2
  obtain ⟨d1, d2⟩ := drop_sem (p := p) b1
  refine right_ext d1 hr fun q => ?_
  rw [d2, b2]
  by_cases hq : q = p
  · subst hq; simp [hh]
  · have : hasB q [(p, p + 1)] = false := by simp [hasB]; omega
    simp [this, hq]
theorem drop_give {p : Int} (hp : 0 ≤ p) {L : List Run} (hr : rightB L = true) (hh : hasB p L = true) : bothR (dropR p L) [(p, p + 1)] = L := by
  obtain ⟨m1, m2⟩ := mk_one hp
  obtain ⟨d1, d2⟩ := drop_sem (p := p) hr
  obtain ⟨b1, b2⟩ := both_right d1 m2
  refine right_ext b1 hr fun q => ?_
  rw [b2, d2]
  by_cases hq : q = p
  · subst hq; rw [hh]; simp [hasB]; omega
  · have : hasB q [(p, p + 1)] = false := by simp [hasB]; omega
    simp [this, hq]
theorem encR_len : ∀ {M : List Run} {e : Int}, U32 M → 0 ≤ e → (encR e M).length ≤ 20 * M.length
  | [], _, _, _ => by simp [encR]
  | r :: M, e, hu, he => by
    have h1 := numB_len10 (n := (r.1 - e).toNat) (by have := hu.head; omega)
    have h2 := numB_len10 (n := (r.2 - r.1).toNat) (by have := hu.head; omega)
    have := encR_len (M := M) (e := r.2) hu.tail (by have := hu.head; omega)
    simp only [encR, List.length_append, List.length_cons]; omega
theorem dec_enc : ∀ (M : List Run) (pre : List Int) (first : Bool) (e e' : Int) (O : List Run), U32 M → okFrom e' M = true → e ≤ e' + (if first then 1 else 0) → 0 ≤ e → (first = false → e = e') →
    decN (pre ++ encR e M) M.length first pre.length e O = (O ++ M, 0, 0)
  | [], pre, first, e, e', O, _, _, _, _, _ => by simp [decN, encR]
  | r :: M, pre, first, e, e', O, hu, h, h1, h0, h2 => by
    simp only [okFrom, Bool.and_eq_true, decide_eq_true_eq] at h
    have hr := hu.head
    have hge : 0 ≤ r.1 - e := by cases first <;> simp at h1 h2 <;> omega
    have d1 : (pre ++ encR e (r :: M)).drop pre.length = numB (r.1 - e).toNat ++ (numB (r.2 - r.1).toNat ++ encR r.2 M) := by simp [encR]
    have t1 : tk 0 0 ((pre ++ encR e (r :: M)).drop pre.length) = (r.1 - e, (numB (r.1 - e).toNat).length, 0) := by
      rw [d1, tk_back0 (by omega)]; congr 1; omega
    have d2 : (pre ++ encR e (r :: M)).drop (pre.length + (numB (r.1 - e).toNat).length) = numB (r.2 - r.1).toNat ++ encR r.2 M := by
      rw [← List.drop_drop, d1]; simp
    have t2 : tk 0 0 ((pre ++ encR e (r :: M)).drop (pre.length + (numB (r.1 - e).toNat).length)) = (r.2 - r.1, (numB (r.2 - r.1).toNat).length, 0) := by
      rw [d2, tk_back0 (by omega)]; congr 1; omega
    rw [List.length_cons, decN, t1]
    simp only
    rw [t2]
    simp only
    rw [if_neg (by simp), if_neg (by
      rintro (⟨ha, hb⟩ | ha)
      · have := h2 hb; omega
      · omega), if_neg (by simp), if_neg (by omega)]
    have e1 : e + (r.1 - e) = r.1 := by omega
    have e2 : r.1 + (r.2 - r.1) = r.2 := by omega
    rw [e1, e2]
    have ih := dec_enc M (pre ++ numB (r.1 - e).toNat ++ numB (r.2 - r.1).toNat) false r.2 r.2 (O ++ [(r.1, r.2)]) hu.tail h.2.2 (by simp) (by omega) (fun _ => rfl)
    simp only [List.length_append, List.append_assoc, encR, List.singleton_append, Nat.add_assoc] at ih ⊢
    exact ih
theorem decL_encL {L : List Run} (hu : U32 L) (hr : rightB L = true) : decL (encL L) = (L, 0, 0) := by
  have hlen := right_len hr hu
  have t : tk 0 0 (encL L) = ((L.length : Int), (numB L.length).length, 0) := by rw [encL, tk_back0 (by omega)]
  rw [decL, t]
  simp only
  rw [if_neg (by simp), Int.toNat_natCast, encL, dec_enc L (numB L.length) true 0 (-1) [] hu hr (by simp) (by omega) (fun h => by cases h)]
  rfl
/-- Has of a right list. -/
theorem has_ok {s : Sl} {p : Int} {w : World} {K : Bool → Int → World → Prop} {L : List Run} (h : RdR w.heap s L) (hu : U32 L) (hr : rightB L = true) (k : ∀ w', Ext No w w' → K (hasB p L) 0 w') : C_runs_Has s p w K := by
  have hlen := right_len hr hu
  refine has_spec h hu (by omega) fun w1 e1 => ?_
  rw [hr]
  simpa using k w1 e1
theorem runsBack_spec {l : Sl} {p q : Int} {w : World} {L : List Run} (h : RdR w.heap l L) (hu : U32 L) (hn : L.length ≤ 9223372036854775807) (hp : 0 ≤ p ∧ p ≤ 4294967295) : C_law11_RunsBack l p q w (Tr w) := by
  apply S_law11_RunsBack
  refine ⟨fun w' => Ext No w w' ∧ rightB L = true ∧ p ≠ 4294967295, ?_, ?_⟩
  · exact right_spec h hu hn fun w1 e1 => If.not (If.cases (fun hr => If.beq (fun _ => known_tr e1) (fun hpn => ⟨e1, hr, hpn⟩)) (fun _ => known_tr e1))
  · rintro _ w4 ⟨x4, hr, hpn⟩
    have hlen := right_len hr hu
    obtain ⟨m1, m2⟩ := mk_one (p := p) hp.1
    have um : U32 [(p, p + 1)] := fun x hx => by simp at hx; subst hx; exact ⟨by omega, by omega, by simp only; omega, by simp only; omega⟩
    refine has_ok (h.no x4) hu hr fun w5 e5 => If.bne (fun h => absurd rfl h) (fun _ => ?_)
    have x5 := x4.no e5
    refine ⟨fun w' => Ext No w w', ?_, ?_⟩
    · refine If.not (If.cases (fun hh => ?_) (fun hh => ?_))
      · obtain ⟨d1, d2⟩ := drop_sem (p := p) hr
        have du := drop_u32 hp.1 hu
        have dh : hasB p (dropR p L) = false := by rw [d2]; simp
        have dl := right_len d1 du
        refine drop_spec (h.no x5) hu hn hp (fun h => by rw [hr] at h; cases h) (fun _ h => by rw [hh] at h; cases h) fun _ _ s6 w6 o6 e6 => ?_
        have x6 := x5.no e6
        refine give_spec o6.rd du (by omega) hp (fun h => by rw [rightB, d1] at h; cases h) (fun _ h => absurd h hpn) (fun _ _ h => by rw [dh] at h; cases h) fun _ _ _ s7 w7 o7 e7 => ?_
        rw [drop_give hp.1 hr hh] at o7
        refine has_ok (o6.no e7).rd du d1 fun w8 e8 => ?_
        rw [dh]
        refine If.bne (fun h => absurd rfl h) fun _ => If.bne (fun h => absurd rfl h) fun _ => If.bne (fun h => absurd rfl h) fun _ => If.no ?_
        have x8 := (x6.no e7).no e8
        refine lawSame_spec (o7.no e8).rd (h.no x8) hn fun w9 e9 => If.not (If.cases (fun _ => ?_) (fun h => by simp at h))
        exact right_spec (((o6.no e7).no e8).no e9).rd du (by omega) fun w10 e10 => If.not (If.cases (fun _ => (x8.no e9).no e10) (fun h => by rw [rightB, d1] at h; cases h))
      · obtain ⟨b1, b2⟩ := both_right hr m2
        have bu := both_u32 hu um
        have bh : hasB p (bothR L [(p, p + 1)]) = true := by rw [b2, hh]; simp [hasB]; omega
        have bl := right_len b1 bu
        refine give_spec (h.no x5) hu hn hp (fun h => by rw [hr] at h; cases h) (fun _ h => absurd h hpn) (fun _ _ h => by rw [hh] at h; cases h) fun _ _ _ s6 w6 o6 e6 => ?_
        have x6 := x5.no e6
        refine drop_spec o6.rd bu (by omega) hp (fun h => by rw [b1] at h; cases h) (fun _ h => by rw [bh] at h; cases h) fun _ _ s7 w7 o7 e7 => ?_
        rw [give_drop hp.1 hr hh] at o7
        have x7 := x6.no e7
        have o67 := o6.no e7
        refine has_ok o67.rd bu b1 fun w8 e8 => has_ok (h.no (x7.no e8)) hu hr fun w9 e9 => has_ok ((o67.no e8).no e9).rd bu b1 fun w10 e10 => ?_
        rw [bh]
        have x10 := ((x7.no e8).no e9).no e10
        have o10 := ((o67.no e8).no e9).no e10
        refine If.bne (fun h => absurd rfl h) fun _ => If.bne (fun h => absurd rfl h) fun _ => If.bne (fun h => absurd rfl h) fun _ => If.bne (fun h => absurd rfl h) fun _ => If.bne (fun h => absurd rfl h) fun _ => If.not (If.yes ?_)
        have tail : C_law11_same s7 l w10 fun r_3 w11 => If (!r_3) (Tr w false w11) (C_runs_Right s6 w11 fun r_4 w12 => If (!r_4) (Tr w false w12) (Ext No w w12)) :=
          lawSame_spec (((o7.no e8).no e9).no e10).rd (h.no x10) hn fun w11 e11 => If.not (If.cases (fun _ => right_spec (o10.no e11).rd bu (by omega) fun w12 e12 => If.not (If.cases (fun _ => (x10.no e11).no e12) (fun h => by rw [b1] at h; cases h))) (fun h => by simp at h))
        refine If.cases (fun hq => If.not (If.cases (fun _ => tail) (fun h => ?_))) (fun hq => If.not (If.cases (fun _ => tail) (fun h => ?_)))
        · rw [b2, hq] at h; simp at h
        · rw [b2, hq] at h
          exfalso
          have : hasB q [(p, p + 1)] = (p == q) := by
            rw [Bool.eq_iff_iff]; simp [hasB]; omega
          rw [this] at h
          simp at h
    · intro _ w20 x20
      refine encode_spec (h.no x20) hu hn (fun h => by rw [hr] at h; cases h) fun _ s21 w21 o21 e21 => ?_
      have hl := encR_len (M := L) (e := 0) hu (by omega)
      have h10 := numB_len10 (n := L.length) (by omega)
      refine decode_spec o21.rd ((numB_b8 _).append (encR_b8 L 0)) (by rw [encL, List.length_append]; omega) fun s22 w22 o22 e22 => ?_
      have hd := decL_encL hu hr
      rw [hd] at o22 ⊢
      refine If.beq (fun _ => If.beq (fun _ => If.beq (fun _ => ?_) (fun h => absurd rfl h)) (fun h => absurd rfl h)) (fun h => absurd rfl h)
      have x22 := (x20.no e21).no e22
      exact lawSame_spec o22.rd (h.no x22) hn fun w23 e23 => If.cases (fun _ => known_tr (x22.no e23)) (fun h => by simp at h)
end Go.Proofs.Ytomlobgpeobnfaa
