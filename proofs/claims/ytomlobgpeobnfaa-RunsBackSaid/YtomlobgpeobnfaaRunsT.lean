/- Layer 11: Decode, plain, and the document's Decode. -/
import Derived.Test.YtomlobgpeobnfaaRunsS
import Derived.Test.YtomlobgpeobnfaaPackS
namespace Go.V.Rn
open Go.V Go.V.Pk
/-- So many runs more are read. -/
def decN (l : List Int) : Nat → Bool → Nat → Int → List Run → List Run × Int × Int
  | 0, _, at_, _, O => if at_ < l.length then ([], 5, (at_ : Int)) else (O, 0, 0)
  | n + 1, first, at_, e, O =>
    if (tk 0 0 (l.drop at_)).2.2 ≠ 0 then ([], (tk 0 0 (l.drop at_)).2.2, (at_ : Int))
    else if ((tk 0 0 (l.drop at_)).1 = 0 ∧ first = false) ∨ (tk 0 0 (l.drop at_)).1 > 4294967295 - e then ([], 5, (at_ : Int))
    else if (tk 0 0 (l.drop (at_ + (tk 0 0 (l.drop at_)).2.1))).2.2 ≠ 0 then ([], (tk 0 0 (l.drop (at_ + (tk 0 0 (l.drop at_)).2.1))).2.2, ((at_ + (tk 0 0 (l.drop at_)).2.1 : Nat) : Int))
    else if (tk 0 0 (l.drop (at_ + (tk 0 0 (l.drop at_)).2.1))).1 = 0 ∨ (tk 0 0 (l.drop (at_ + (tk 0 0 (l.drop at_)).2.1))).1 > 4294967295 - e - (tk 0 0 (l.drop at_)).1 then ([], 5, ((at_ + (tk 0 0 (l.drop at_)).2.1 : Nat) : Int))
    else decN l n false (at_ + (tk 0 0 (l.drop at_)).2.1 + (tk 0 0 (l.drop (at_ + (tk 0 0 (l.drop at_)).2.1))).2.1) (e + (tk 0 0 (l.drop at_)).1 + (tk 0 0 (l.drop (at_ + (tk 0 0 (l.drop at_)).2.1))).1)
      (O ++ [(e + (tk 0 0 (l.drop at_)).1, e + (tk 0 0 (l.drop at_)).1 + (tk 0 0 (l.drop (at_ + (tk 0 0 (l.drop at_)).2.1))).1)])
def decL (l : List Int) : List Run × Int × Int := if (tk 0 0 l).2.2 ≠ 0 then ([], (tk 0 0 l).2.2, 0) else decN l (tk 0 0 l).1.toNat true (tk 0 0 l).2.1 0 []
theorem tk_u64 : ∀ (l : List Int) (i : Nat) (n : Int), B8 l → i ≤ 9 → 0 ≤ n → n < 128 ^ i → (tk i n l).1 ≤ 18446744073709551615
  | [], i, n, _, _, _, _ => by simp [tk]
  | x :: l, i, n, hb, hi, h0, h1 => by
    have hx := hb x (by simp)
    have hm : 0 ≤ x % 128 ∧ x % 128 ≤ 127 := by omega
    have hp : (0 : Int) < 128 ^ i := Int.pow_pos (by omega)
    have hstep : 0 ≤ n + (x % 128) * 128 ^ i ∧ n + (x % 128) * 128 ^ i < 128 ^ (i + 1) := by
      rw [Int.pow_succ]
      have := Int.mul_nonneg hm.1 (Int.le_of_lt hp)
      have h2 : (x % 128) * 128 ^ i ≤ 127 * 128 ^ i := Int.mul_le_mul_of_nonneg_right hm.2 (Int.le_of_lt hp)
      omega
    unfold tk
    split
    · simp
    · rename_i h9
      split
      · rename_i hge
        have hi' : i ≠ 9 := fun e => h9 ⟨e, by omega⟩
        exact tk_u64 l (i + 1) _ (hb.sub (by simp_all)) (by omega) hstep.1 hstep.2
      · split
        · simp
        · show n + (x % 128) * 128 ^ i ≤ _
          rcases Nat.lt_or_ge i 9 with hlt | hge
          · have : (128 : Int) ^ (i + 1) ≤ 128 ^ 9 := by exact_mod_cast Nat.pow_le_pow_right (by decide) hlt
            have e : (128 : Int) ^ 9 = 9223372036854775808 := by decide
            omega
          · have e9 : i = 9 := by omega
            subst e9
            have e : (128 : Int) ^ 9 = 9223372036854775808 := by decide
            have : x ≤ 1 := by
              rcases Int.lt_or_le 1 x with h | h
              · exact absurd ⟨rfl, h⟩ h9
              · exact h
            rw [e] at h1 ⊢
            have h3 : x % 128 ≤ 1 := by omega
            have : (x % 128) * 9223372036854775808 ≤ 1 * 9223372036854775808 := Int.mul_le_mul_of_nonneg_right h3 (by decide)
            omega
theorem tk_rng {l : List Int} (h : B8 l) : 0 ≤ (tk 0 0 l).1 ∧ (tk 0 0 l).1 ≤ 18446744073709551615 := ⟨tk_nonneg l 0 0 h (Int.le_refl _), tk_u64 l 0 0 h (by omega) (Int.le_refl _) (by decide)⟩
theorem tk_ok {l : List Int} {at_ : Nat} (hle : at_ ≤ l.length) (h : (tk 0 0 (l.drop at_)).2.2 = 0) : 0 < (tk 0 0 (l.drop at_)).2.1 ∧ at_ + (tk 0 0 (l.drop at_)).2.1 ≤ l.length := by
  rcases tk_fault (l.drop at_) 0 0 with ⟨_, h2, h3⟩ | ⟨h1, _⟩
  · simp only [List.length_drop] at h3; omega
  · exact absurd h h1
end Go.V.Rn
namespace Go.Proofs.Ytomlobgpeobnfaa
open Go.V Go.V.Rn Go.V.Pk
theorem cutB {H : Array Obj} {s : Sl} {l : List Int} {K : Sl → Prop} {lo : Nat} (h : RdB H s l) (h1 : lo ≤ l.length) (k : ∀ s', RdB H s' (l.drop lo) → K s') : Cut s (lo : Int) (((s.len : Nat) : Int)) (((s.cap : Nat) : Int)) 1 K := by
  have hc := h.cap
  have hl := RdB.len h
  refine Cut.mk (by omega) (by omega) (by omega) (by omega) (k _ ?_)
  have := Rd.cut h (lo := lo) (hi := s.len) (mx := s.cap) (by omega) (by omega) (by omega)
  have e1 : ((s.len : Int) - (lo : Int)).toNat = s.len - lo := by omega
  have e2 : ((s.cap : Int) - (lo : Int)).toNat = s.cap - lo := by omega
  simp only [Int.toNat_natCast, e1, e2]
  have e3 : ((l.map (Value.int .u8)).drop (lo * 1)).take ((s.len - lo) * 1) = (l.drop lo).map (Value.int .u8) := by
    rw [Nat.mul_one, Nat.mul_one, ← List.map_drop]
    exact List.take_of_length_le (by simp; omega)
  rw [e3] at this
  exact this
theorem refDecode_spec {b : Sl} {w : World} {K : Sl → Int → Int → World → Prop} {l : List Int} (hb : RdB w.heap b l) (h8 : B8 l) (hlen : l.length ≤ 4611686018427387904)
    (k : ∀ s w', OwnR w'.heap w.heap.size s (decL l).1 → Ext No w w' → K s (decL l).2.1 (decL l).2.2 w') : C_ref11_Decode b w K := by
  apply S_ref11_Decode
  have hl := RdB.len hb
  refine taken_spec hb h8 hlen (If.bne (fun he => ?_) (fun he => ?_))
  · have e : decL l = ([], (tk 0 0 l).2.2, 0) := by rw [decL, if_pos he]
    rw [e] at k
    exact k _ w (Own.nil _ _ _ _) (Ext.refl _ _)
  · have e : decL l = decN l (tk 0 0 l).1.toNat true (tk 0 0 l).2.1 0 [] := by rw [decL, if_neg (by simp [he])]
    rw [e] at k
    have hc := tk_rng h8
    have hk := tk_ok (l := l) (at_ := 0) (Nat.zero_le _) he
    simp only [List.drop_zero, Nat.zero_add] at hk
    generalize (tk 0 0 l).1 = c at *
    generalize (tk 0 0 l).2.1 = a0 at *
    refine ⟨fun m s at_ endv i w' => ∃ (a j : Nat) (O : List Run), at_ = a ∧ i = j ∧ m = c.toNat - j ∧ (j : Int) ≤ c ∧ a ≤ l.length ∧ 0 ≤ endv ∧ endv ≤ 4294967295 ∧ (O.length : Int) ≤ endv ∧ OwnR w'.heap w.heap.size s O ∧ Ext No w w' ∧
      decN l (c.toNat - j) (decide (j = 0)) a endv O = decN l c.toNat true a0 0 [],
      ⟨_, a0, 0, [], rfl, rfl, rfl, by omega, hk.2, by omega, by omega, by simp, Own.nil _ _ _ _, Ext.refl _ _, by simp⟩, ?_⟩
    rintro _ m s at_ endv i w2 ⟨a, j, O, rfl, rfl, rfl, hj, ha, he0, he1, hO, own, ext, hd⟩
    refine If.dec (fun hlt => ?_) (fun hge => ?_)
    · have hm : c.toNat - j = (c.toNat - (j + 1)) + 1 := by omega
      rw [hm, decN] at hd
      refine cutB (hb.no ext) ha fun s3 r3 => taken_spec r3 (h8.drop _) (by simp; omega) ?_
      have ht := tk_rng (h8.drop a)
      have hok := tk_ok (l := l) ha
      generalize tk 0 0 (l.drop a) = t at *
      obtain ⟨n, kk, f⟩ := t
      simp only at *
      refine If.bne (fun hf => ?_) (fun hf => ?_)
      · rw [if_pos hf] at hd; rw [← hd] at k; exact k _ w2 (Own.nil _ _ _ _) ext
      · subst hf
        rw [if_neg (by simp)] at hd
        obtain ⟨hk1, hk2⟩ := hok rfl
        refine ⟨fun w' => w' = w2 ∧ ¬ ((n = 0 ∧ decide (j = 0) = false) ∨ n > 4294967295 - endv), ?_, ?_⟩
        · refine If.beq (fun h0 => If.dec (fun hi => ?_) (fun hi => Ar.u64 (by omega) (If.dec (fun h1 => ?_) (fun h1 => ⟨rfl, ?_⟩)))) (fun h0 => Ar.u64 (by omega) (If.dec (fun h1 => ?_) (fun h1 => ⟨rfl, ?_⟩)))
          · rw [if_pos (.inl ⟨h0, by simp; omega⟩)] at hd; rw [← hd] at k; exact k _ w2 (Own.nil _ _ _ _) ext
          · omega
          · simp; omega
          · rw [if_pos (.inr h1)] at hd; rw [← hd] at k; exact k _ w2 (Own.nil _ _ _ _) ext
          · simp [h0]; omega
        · rintro _ w4 ⟨rfl, hc1⟩
          rw [if_neg hc1] at hd
          have hn1 : n ≤ 4294967295 - endv := by
            rcases Int.lt_or_le (4294967295 - endv) n with h | h
            · exact absurd (.inr h) hc1
            · exact h
          have ea : (a : Int) + (kk : Int) = ((a + kk : Nat) : Int) := by omega
          refine Ar.i64 (by omega) ?_
          rw [ea]
          refine cutB (hb.no ext) hk2 fun s5 r5 => taken_spec r5 (h8.drop _) (by simp; omega) ?_
          have ht5 := tk_rng (h8.drop (a + kk))
          have hok5 := tk_ok (l := l) hk2
          generalize tk 0 0 (l.drop (a + kk)) = t at *
          obtain ⟨n5, k5, f5⟩ := t
          simp only at *
          refine If.bne (fun hf => ?_) (fun hf => ?_)
          · rw [if_pos hf] at hd; rw [← hd] at k; exact k _ w4 (Own.nil _ _ _ _) ext
          · subst hf
            rw [if_neg (by simp)] at hd
            obtain ⟨hk3, hk4⟩ := hok5 rfl
            refine ⟨fun w' => w' = w4 ∧ ¬ (n5 = 0 ∨ n5 > 4294967295 - endv - n), ?_, ?_⟩
            · refine If.beq (fun h0 => ?_) (fun h0 => Ar.u64 (by omega) (Ar.u64 (by omega) (If.dec (fun h1 => ?_) (fun h1 => ⟨rfl, by omega⟩))))
              · rw [if_pos (.inl h0)] at hd; rw [← hd] at k; exact k _ w4 (Own.nil _ _ _ _) ext
              · rw [if_pos (.inr h1)] at hd; rw [← hd] at k; exact k _ w4 (Own.nil _ _ _ _) ext
            · rintro _ w6 ⟨rfl, hc2⟩
              rw [if_neg hc2] at hd
              have ea2 : ((a + kk : Nat) : Int) + (k5 : Int) = ((a + kk + k5 : Nat) : Int) := by omega
              refine Ar.i64 (by omega) (Ar.u64 (by omega) (Ar.u32 (by omega) (Ar.u64 (by omega) (Ar.u64 (by omega) (Ar.u32 (by omega) (appR (r := (endv + n, endv + n + n5)) own ext.size (by omega) fun s7 w7 o7 ext7 => Ar.u64 (by omega) (Ar.u64 (by omega) (Ar.u64 (by omega) ⟨_, ?_, a + kk + k5, j + 1, O ++ [(endv + n, endv + n + n5)], ea2, by omega, rfl, by omega, hk4, by omega, by omega, by simp; omega, o7, ext.trans ext7 fun i hi hb => ?_, ?_⟩))))))))
              · omega
              · have := (own.lt hb).1; omega
              · simpa using hd
    · have hm : c.toNat - j = 0 := by omega
      rw [hm, decN] at hd
      refine If.dec (fun h1 => ?_) (fun h1 => ?_)
      · rw [if_pos (by omega)] at hd; rw [← hd] at k; exact k _ w2 (Own.nil _ _ _ _) ext
      · rw [if_neg (by omega)] at hd; rw [← hd] at k; exact k _ w2 own ext
end Go.Proofs.Ytomlobgpeobnfaa
