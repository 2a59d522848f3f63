/- Layer 7, plain: there and back. -/
import Derived.Test.YtomlobgpeobnfaaPackPlain
namespace Go.V.Pk
theorem tk_step (i : Nat) (n x : Int) (l : List Int) : tk i n (x :: l) =
    if i = 9 ∧ x > 1 then (0, 0, 6) else if x ≥ 128 then tk (i + 1) (n + (x % 128) * 128 ^ i) l else if x = 0 ∧ 0 < i then (0, 0, 5) else (n + (x % 128) * 128 ^ i, i + 1, 0) := rfl
/-- Bytes that are read as a number are its bytes. -/
theorem tk_only : ∀ (l : List Int) (i : Nat) (acc : Int), B8 l → (tk i acc l).2.2 = 0 →
    ∃ m : Nat, (tk i acc l).1 = acc + m * 128 ^ i ∧ i < (tk i acc l).2.1 ∧ l.take ((tk i acc l).2.1 - i) = numB m ∧ (0 < i → 0 < m) ∧ (i ≤ 9 → m * 128 ^ i < 18446744073709551616)
  | [], i, acc, _, h => by simp [tk] at h
  | x :: l, i, acc, hb, h => by
    have hx := hb x (by simp)
    rw [tk_step] at h ⊢
    split at h
    · simp at h
    · rename_i h9
      rw [if_neg h9]
      split at h
      · rename_i hge
        rw [if_pos hge]
        obtain ⟨m, h1, h2, h3, h4, h5⟩ := tk_only l (i + 1) _ (hb.sub (by simp_all)) h
        have hm := h4 (by omega)
        refine ⟨(x % 128).toNat + 128 * m, ?_, by omega, ?_, by omega, fun hi => ?_⟩
        · rw [h1, Int.pow_succ]
          have : (((x % 128).toNat + 128 * m : Nat) : Int) = x % 128 + 128 * m := by omega
          rw [this, Int.add_mul, Int.add_assoc]
          congr 2
          rw [Int.mul_comm 128 (m : Int), Int.mul_assoc, Int.mul_comm (128 ^ i) 128, ← Int.mul_assoc]
        · have e : (tk (i + 1) (acc + x % 128 * 128 ^ i) l).2.1 - i = ((tk (i + 1) (acc + x % 128 * 128 ^ i) l).2.1 - (i + 1)) + 1 := by omega
          rw [e, List.take_succ_cons, h3, numB_ge (n := (x % 128).toNat + 128 * m) (by omega)]
          have e1 : (((x % 128).toNat + 128 * m) % 128 + 128 : Nat) = x := by omega
          have e2 : ((x % 128).toNat + 128 * m) / 128 = m := by omega
          rw [e1, e2]
        · have hi9 : i ≠ 9 := fun e => h9 ⟨e, by omega⟩
          have h6 := h5 (by omega)
          have hlt : (x % 128).toNat < 128 := by omega
          rw [Nat.pow_succ] at h6
          have e1 : ((x % 128).toNat + 128 * m) * 128 ^ i = (x % 128).toNat * 128 ^ i + m * (128 ^ i * 128) := by
            rw [Nat.add_mul, Nat.mul_comm 128 m, Nat.mul_assoc, Nat.mul_comm 128 (128 ^ i)]
          rw [e1]
          have hdvd : ∃ q, 18446744073709551616 = q * (128 ^ i * 128) := by
            have : i = 0 ∨ i = 1 ∨ i = 2 ∨ i = 3 ∨ i = 4 ∨ i = 5 ∨ i = 6 ∨ i = 7 ∨ i = 8 := by omega
            rcases this with rfl | rfl | rfl | rfl | rfl | rfl | rfl | rfl | rfl
            · exact ⟨144115188075855872, by decide⟩
            · exact ⟨1125899906842624, by decide⟩
            · exact ⟨8796093022208, by decide⟩
            · exact ⟨68719476736, by decide⟩
            · exact ⟨536870912, by decide⟩
            · exact ⟨4194304, by decide⟩
            · exact ⟨32768, by decide⟩
            · exact ⟨256, by decide⟩
            · exact ⟨2, by decide⟩
          obtain ⟨q, hq⟩ := hdvd
          have hmq : m < q := by
            rw [hq] at h6
            exact Nat.lt_of_mul_lt_mul_right h6
          have h7 : m * (128 ^ i * 128) + (128 ^ i * 128) ≤ q * (128 ^ i * 128) := by
            rw [← Nat.succ_mul]; exact Nat.mul_le_mul_right _ hmq
          have h8 : (x % 128).toNat * 128 ^ i < 128 ^ i * 128 := by
            rw [Nat.mul_comm (128 ^ i) 128]
            exact Nat.mul_lt_mul_of_pos_right hlt (Nat.pow_pos (by decide))
          rw [hq]
          omega
      · rename_i hlt
        rw [if_neg hlt]
        split at h
        · simp at h
        · rename_i h0
          rw [if_neg h0]
          have hxm : x % 128 = x := by omega
          refine ⟨x.toNat, by rw [hxm]; simp [Int.toNat_of_nonneg hx.1], by simp, ?_, fun hi => ?_, fun hi => ?_⟩
          · have : i + 1 - i = 1 := by omega
            rw [this, numB_lt (by omega)]
            simp [Int.toNat_of_nonneg hx.1]
          · have : x ≠ 0 := fun e => h0 ⟨e, hi⟩
            omega
          · rcases Nat.lt_or_ge i 9 with h | h
            · have h1 : 128 ^ i ≤ 128 ^ 8 := Nat.pow_le_pow_right (by decide) (by omega)
              have e : (128 : Nat) ^ 8 = 72057594037927936 := by decide
              have h2 : x.toNat * 128 ^ i ≤ 127 * 128 ^ 8 := Nat.mul_le_mul (by omega) h1
              omega
            · have hi9 : i = 9 := by omega
              have h1 : ¬ x > 1 := fun h => h9 ⟨hi9, h⟩
              have h2 : x.toNat * 128 ^ i ≤ 1 * 128 ^ 9 := by rw [hi9]; exact Nat.mul_le_mul_right _ (by omega)
              have e : (128 : Nat) ^ 9 = 9223372036854775808 := by decide
              omega
/-- A number's bytes are read as it. -/
theorem tk_back : ∀ (k m : Nat) (i : Nat) (acc : Int) (rest : List Int), m ≤ k → (0 < i → 0 < m) → i ≤ 9 → m * 128 ^ i < 18446744073709551616 →
    tk i acc (numB m ++ rest) = (acc + m * 128 ^ i, i + (numB m).length, 0) := by
  intro k
  induction k using Nat.strongRecOn with
  | _ k ih =>
    intro m i acc rest hk h0 hi hm
    by_cases h : m < 128
    · rw [numB_lt h]
      simp only [List.singleton_append, List.length_singleton]
      rw [tk_step, if_neg, if_neg (by omega), if_neg (by omega)]
      · have : (m : Int) % 128 = m := by omega
        rw [this]
      · rintro ⟨rfl, h1⟩
        have e : (128 : Nat) ^ 9 = 9223372036854775808 := by decide
        rw [e] at hm
        omega
    · rw [numB_ge (by omega)]
      simp only [List.cons_append, List.length_cons]
      have hi9 : i ≠ 9 := by
        rintro rfl
        have e : (128 : Nat) ^ 9 = 9223372036854775808 := by decide
        rw [e] at hm
        omega
      rw [tk_step, if_neg (fun h => hi9 h.1), if_pos (by omega)]
      have e1 : ((m % 128 + 128 : Nat) : Int) % 128 = ((m % 128 : Nat) : Int) := by omega
      have hm' : m / 128 * 128 ^ (i + 1) < 18446744073709551616 := by
        rw [Nat.pow_succ, Nat.mul_comm (128 ^ i) 128, ← Nat.mul_assoc]
        have : m / 128 * 128 ≤ m := Nat.div_mul_le_self m 128
        exact Nat.lt_of_le_of_lt (Nat.mul_le_mul_right _ this) hm
      rw [e1, ih (m / 128) (by omega) (m / 128) (i + 1) _ rest (Nat.le_refl _) (by omega) (by omega) hm']
      refine Prod.ext ?_ (Prod.ext ?_ rfl)
      · simp only
        have e2 : (m : Int) = ((m % 128 : Nat) : Int) + ((m / 128 : Nat) : Int) * 128 := by omega
        rw [Int.pow_succ]
        generalize (128 : Int) ^ i = p
        generalize ((m % 128 : Nat) : Int) = a at *
        generalize ((m / 128 : Nat) : Int) = b at *
        rw [e2]
        grind
      · simp only; omega
/-- A number's bytes, cut, are too short. -/
theorem tk_cut : ∀ (k m : Nat) (i : Nat) (acc : Int) (j : Nat), m ≤ k → j < (numB m).length → i + (numB m).length ≤ 10 → tk i acc ((numB m).take j) = (0, 0, 4) := by
  intro k
  induction k using Nat.strongRecOn with
  | _ k ih =>
    intro m i acc j hk hj hi
    cases j with
    | zero => simp [tk]
    | succ j =>
      by_cases h : m < 128
      · rw [numB_lt h] at hj; simp at hj
      · rw [numB_ge (by omega)] at hj hi ⊢
        simp only [List.length_cons] at hj hi
        have hne := numB_ne (m / 128)
        have hlen : 0 < (numB (m / 128)).length := List.length_pos_iff.2 hne
        rw [List.take_succ_cons, tk_step, if_neg (by omega), if_pos (by omega)]
        exact ih (m / 128) (by omega) (m / 128) (i + 1) _ j (Nat.le_refl _) (by omega) (by omega)
theorem tk_back0 {m : Nat} (h : m < 18446744073709551616) (rest : List Int) : tk 0 0 (numB m ++ rest) = ((m : Int), (numB m).length, 0) := by
  rw [tk_back m m 0 0 rest (Nat.le_refl _) (by omega) (by omega) (by simpa using h)]; simp
theorem tk_cut0 {m j : Nat} (h : m < 18446744073709551616) (hj : j < (numB m).length) : tk 0 0 ((numB m).take j) = (0, 0, 4) :=
  tk_cut m m 0 0 j (Nat.le_refl _) hj (by have := numB_len10 h; omega)
end Go.V.Pk
