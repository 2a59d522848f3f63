/- Layer 7, plain: numbers' bytes, and what bytes are read as. -/
import Derived.Test.YtomlobgpeobnfaaBits
namespace Go.V.Pk
/-- The bytes of a number. -/
def numB (n : Nat) : List Int := if n < 128 then [(n : Int)] else ((n % 128 + 128 : Nat) : Int) :: numB (n / 128)
termination_by n
theorem numB_lt {n : Nat} (h : n < 128) : numB n = [(n : Int)] := by rw [numB, if_pos h]
theorem numB_ge {n : Nat} (h : 128 ≤ n) : numB n = ((n % 128 + 128 : Nat) : Int) :: numB (n / 128) := by rw [numB, if_neg (by omega)]
theorem numB_b8 (n : Nat) : B8 (numB n) := by
  induction n using Nat.strongRecOn with
  | _ n ih =>
    by_cases h : n < 128
    · rw [numB_lt h]; exact B8.cons (by omega) B8.nil
    · rw [numB_ge (by omega)]; exact B8.cons (by omega) (ih _ (by omega))
theorem numB_len : ∀ (k n : Nat), n < 128 ^ k → 0 < k → (numB n).length ≤ k
  | 0, n, h, hk => by omega
  | k + 1, n, h, _ => by
    by_cases h1 : n < 128
    · rw [numB_lt h1]; simp
    · rw [numB_ge (by omega)]
      rw [Nat.pow_succ] at h
      have hk : 0 < k := by
        rcases Nat.eq_zero_or_pos k with rfl | h'
        · simp at h; omega
        · exact h'
      have := numB_len k (n / 128) (by omega) hk
      simp; omega
theorem numB_len10 {n : Nat} (h : n < 18446744073709551616) : (numB n).length ≤ 10 := numB_len 10 n (Nat.lt_of_lt_of_le h (by decide)) (by decide)
theorem numB_ne (n : Nat) : numB n ≠ [] := by
  by_cases h : n < 128
  · rw [numB_lt h]; simp
  · rw [numB_ge (by omega)]; simp
/-- The number at the beginning of bytes: it, how many bytes it has, the fault. -/
def tk : Nat → Int → List Int → Int × Nat × Int
  | _, _, [] => (0, 0, 4)
  | i, n, x :: l =>
    if i = 9 ∧ x > 1 then (0, 0, 6)
    else if x ≥ 128 then tk (i + 1) (n + (x % 128) * 128 ^ i) l
    else if x = 0 ∧ 0 < i then (0, 0, 5)
    else (n + (x % 128) * 128 ^ i, i + 1, 0)
theorem tk_fault : ∀ (l : List Int) (i : Nat) (n : Int), ((tk i n l).2.2 = 0 ∧ i < (tk i n l).2.1 ∧ (tk i n l).2.1 ≤ i + l.length) ∨ ((tk i n l).2.2 ≠ 0 ∧ (tk i n l).2.1 = 0 ∧ (tk i n l).1 = 0)
  | [], i, n => .inr (by simp [tk])
  | x :: l, i, n => by
    unfold tk
    split
    · exact .inr (by simp)
    · split
      · rcases tk_fault l (i + 1) (n + (x % 128) * 128 ^ i) with ⟨h1, h2, h3⟩ | h
        · exact .inl ⟨h1, by omega, by simp; omega⟩
        · exact .inr h
      · split
        · exact .inr (by simp)
        · exact .inl (by simp)
/-- What a reader answers, and how it stands behind it: Num. -/
def rNum (l : List Int) (at_ : Nat) (f : Int) : Int × Nat × Int :=
  if f ≠ 0 then (0, at_, f) else
  if (tk 0 0 (l.drop at_)).2.2 ≠ 0 then (0, at_, (tk 0 0 (l.drop at_)).2.2) else ((tk 0 0 (l.drop at_)).1, at_ + (tk 0 0 (l.drop at_)).2.1, 0)
def rByte (l : List Int) (at_ : Nat) (f : Int) : Int × Nat × Int :=
  if f ≠ 0 then (0, at_, f) else if at_ = l.length then (0, at_, 4) else (l.getD at_ 0, at_ + 1, 0)
/-- Text: the bytes, the place, the fault. -/
def rText (most : Int) (l : List Int) (at_ : Nat) (f : Int) : List Int × Nat × Int :=
  if f ≠ 0 then ([], at_, f) else
  let t := tk 0 0 (l.drop at_)
  if t.2.2 ≠ 0 then ([], at_, t.2.2)
  else if t.1 > max most 0 then ([], at_, 3)
  else if t.1 > (l.length : Int) - (at_ + t.2.1 : Nat) then ([], at_, 4)
  else ((l.drop (at_ + t.2.1)).take t.1.toNat, at_ + t.2.1 + t.1.toNat, 0)
def rDone (l : List Int) (at_ : Nat) (f : Int) : Int × Int := if f = 0 ∧ at_ < l.length then (5, (at_ : Int)) else (f, (at_ : Int))
theorem rNum_le (l : List Int) (at_ : Nat) (f : Int) (h : at_ ≤ l.length) : (rNum l at_ f).2.1 ≤ l.length := by
  unfold rNum
  split
  · exact h
  · split
    · exact h
    · rename_i h1 h2
      rcases tk_fault (l.drop at_) 0 0 with ⟨_, _, h3⟩ | ⟨h3, _⟩
      · simp only [List.length_drop] at h3; simp only; omega
      · exact absurd h3 h2
theorem tk_nonneg : ∀ (l : List Int) (i : Nat) (n : Int), B8 l → 0 ≤ n → 0 ≤ (tk i n l).1
  | [], i, n, _, _ => by simp [tk]
  | x :: l, i, n, hb, hn => by
    have hx := hb x (by simp)
    have hp : (0 : Int) < 128 ^ i := Int.pow_pos (by omega)
    have hm : 0 ≤ (x % 128) * 128 ^ i := Int.mul_nonneg (by omega) (Int.le_of_lt hp)
    unfold tk
    split
    · simp
    · split
      · exact tk_nonneg l (i + 1) _ (hb.sub (by simp_all)) (by omega)
      · split
        · simp
        · simp only; omega
end Go.V.Pk
