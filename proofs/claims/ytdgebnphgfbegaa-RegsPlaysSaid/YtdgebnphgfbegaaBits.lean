/- Bits as arithmetic; more small steps. -/
import Derived.Test.YtdgebnphgfbegaaLem
import Derived.Laws.Strings
namespace Go.V
theorem ofInt_toNat {n : Nat} {x : Int} (h0 : 0 ≤ x) (h1 : x < 2 ^ n) : (BitVec.ofInt n x).toNat = x.toNat := by
  rw [BitVec.toNat_ofInt]
  rw [Int.emod_eq_of_lt h0 (by exact_mod_cast h1)]
theorem bitI_and_u64 {a b : Int} (ha : 0 ≤ a ∧ a ≤ 18446744073709551615) (hb : 0 ≤ b ∧ b ≤ 18446744073709551615) : bitI .and .u64 a b = ((a.toNat &&& b.toNat : Nat) : Int) := by
  show IntKind.u64.wrap ((BitVec.ofInt 64 a &&& BitVec.ofInt 64 b).toNat : Int) = _
  rw [BitVec.toNat_and, ofInt_toNat ha.1 (by omega), ofInt_toNat hb.1 (by omega)]
  refine IntWalk.u64_in _ ⟨by omega, ?_⟩
  have : a.toNat &&& b.toNat ≤ a.toNat := Nat.and_le_left
  omega
theorem bitI_or_u64 {a b : Int} (ha : 0 ≤ a ∧ a ≤ 18446744073709551615) (hb : 0 ≤ b ∧ b ≤ 18446744073709551615) : bitI .or .u64 a b = ((a.toNat ||| b.toNat : Nat) : Int) := by
  show IntKind.u64.wrap ((BitVec.ofInt 64 a ||| BitVec.ofInt 64 b).toNat : Int) = _
  rw [BitVec.toNat_or, ofInt_toNat ha.1 (by omega), ofInt_toNat hb.1 (by omega)]
  refine IntWalk.u64_in _ ⟨by omega, ?_⟩
  have : a.toNat ||| b.toNat < 2 ^ 64 := Nat.or_lt_two_pow (by omega) (by omega)
  omega
/-- Disjoint bits add up. -/
theorem bitI_or_add {n x : Int} {i : Nat} (hn : 0 ≤ n ∧ n < 2 ^ i) (hx : 0 ≤ x) (hb : n + x * 2 ^ i ≤ 18446744073709551615) : bitI .or .u64 n (x * 2 ^ i) = n + x * 2 ^ i := by
  have hp : (0 : Int) < 2 ^ i := Int.pow_pos (by omega)
  have hxx : 0 ≤ x * 2 ^ i := Int.mul_nonneg hx (Int.le_of_lt hp)
  rw [bitI_or_u64 ⟨hn.1, by omega⟩ ⟨hxx, by omega⟩]
  obtain ⟨m, rfl⟩ := Int.eq_ofNat_of_zero_le hn.1
  obtain ⟨y, rfl⟩ := Int.eq_ofNat_of_zero_le hx
  have h1 : m < 2 ^ i := by exact_mod_cast hn.2
  have e1 : ((y : Int) * 2 ^ i).toNat = 2 ^ i * y := by
    have : ((y : Int) * 2 ^ i) = ((2 ^ i * y : Nat) : Int) := by simp [Int.mul_comm]
    rw [this]; rfl
  rw [e1, Int.toNat_natCast, Nat.or_comm, ← Nat.two_pow_add_eq_or_of_lt h1]
  simp [Int.add_comm, Int.mul_comm]
theorem fin256 {p : Int → Prop} (h : ∀ x : Fin 256, p (x.val : Int)) {x : Int} (hx : 0 ≤ x ∧ x ≤ 255) : p x := by
  have := h ⟨x.toNat, by omega⟩
  simpa [Int.toNat_of_nonneg hx.1] using this
theorem bitI_and127 {x : Int} (hx : 0 ≤ x ∧ x ≤ 255) : bitI .and .u8 x 127 = x % 128 := fin256 (p := fun x => bitI .and .u8 x 127 = x % 128) (by decide +kernel) hx
theorem bitI_or128 {x : Int} (hx : 0 ≤ x ∧ x ≤ 255) : bitI .or .u8 x 128 = x % 128 + 128 := fin256 (p := fun x => bitI .or .u8 x 128 = x % 128 + 128) (by decide +kernel) hx
theorem bitI_xor255 {x : Int} (hx : 0 ≤ x ∧ x ≤ 255) : bitI .xor .u8 x 255 = 255 - x := fin256 (p := fun x => bitI .xor .u8 x 255 = 255 - x) (by decide +kernel) hx
theorem fdiv_pow {n : Int} {k b : Nat} : Int.fdiv n (2 ^ min k b) = n / 2 ^ min k b := by
  rw [Int.fdiv_eq_ediv_of_nonneg]
  exact Int.le_of_lt (Int.pow_pos (by omega))
/-! ### worlds in a region that draws -/
theorem Held.no {w : World} {b o : Nat} {v : Value} (h : hcell w.heap b o = some v) : Held (Ext No w) ⟨b, o, none⟩ v := fun w' e => by
  rw [cell_eq, hcell_congr (e.blk b (hcell_lt h) id)]; exact h
theorem Held.cell {w : World} {b o : Nat} {v : Value} (h : Cell w ⟨b, o, none⟩ v) : Held (Ext No w) ⟨b, o, none⟩ v := Held.no (by rw [← cell_eq]; exact h)
theorem Held.but {S : Nat → Prop} {w : World} {b o : Nat} {v : Value} (h : Cell w ⟨b, o, none⟩ v) (hb : ¬ S b) : Held (Ext S w) ⟨b, o, none⟩ v := fun w' e => by
  have h' : hcell w.heap b o = some v := by rw [← cell_eq]; exact h
  rw [cell_eq, hcell_congr (e.blk b (hcell_lt h') hb)]; exact h'
theorem Rd.lt {h : Array Obj} {s : Sl} {sz b : Nat} {cs : List Value} (r : Rd h s sz cs) (hne : cs ≠ []) (hb : s.blk = some b) : b < h.size := by
  obtain ⟨b', off, ha, hc⟩ := r.at_ hne
  simp [Sl.blk, ha] at hb
  subst hb
  exact hcell_lt (hc 0 (List.length_pos_iff.2 hne))
theorem St1.mk {w : World} {b o : Nat} {cs : List Value} {T : TypeId} {v : Value} {K : World → Prop} (hb : w.heap[b]? = some (.cells cs.toArray T (0, 0))) (ho : o < cs.length) (hv : oneC v = true)
    (k : ∀ w', Wrt w b (.cells (cs.set o v).toArray T (0, 0)) w' → K w') : St1 w ⟨b, o, none⟩ v K :=
  ⟨cs.toArray, T, (0, 0), hb, rfl, by simpa using ho, .inr (.inr (Nat.le_refl _)), hv, fun w' hw => k w' hw⟩
theorem Cell.lst {w : World} {b o : Nat} {v : Value} {cs : List Value} {T : TypeId} {fz : Nat × Nat} (h : w.heap[b]? = some (.cells cs.toArray T fz)) (hc : cs[o]? = some v) : Cell w ⟨b, o, none⟩ v :=
  Cell.blk h (by simpa using hc)
/-- The bytes of a slice as a string. -/
def toB (l : List Int) : List UInt8 := l.map fun n => UInt8.ofNat n.toNat
theorem StrC.mk {C : Addr → Value → Prop} {w : World} {s : Sl} {l : List Int} {K : ByteArray → Prop} (h : Rd w.heap s 1 (l.map (Value.int .u8))) (hC : ∀ b o v, hcell w.heap b o = some v → C ⟨b, o, none⟩ v)
    (k : K ⟨(toB l).toArray⟩) : StrC C s K := by
  refine ⟨toB l, ⟨by simpa [toB] using h.len, fun i hi => ?_, fun hn => ?_⟩, k⟩
  · simp only [toB, List.length_map] at hi
    obtain ⟨b, off, ha, hc⟩ := h.at_ (by intro e; simp at e; subst e; simp at hi)
    refine ⟨_, l[i], ha, ?_, by simp [toB]⟩
    rw [addr_add_none rfl]
    exact hC _ _ _ (by have := hc i (by simpa using hi); rw [List.getElem_map] at this; exact this)
  · have : l = [] := Classical.byContradiction fun hne => by
      obtain ⟨b, off, ha, _⟩ := h.at_ (by simpa using hne)
      rw [hn] at ha; cases ha
    subst this; rfl
theorem toList_mk (bs : List UInt8) : ByteArray.toList ⟨bs.toArray⟩ = bs := by
  simp [ByteArray.toList_eq]
theorem toB_inj {l m : List Int} (hl : B8 l) (hm : B8 m) : toB l = toB m ↔ l = m := by
  constructor
  · intro h
    induction l generalizing m with
    | nil => cases m with
      | nil => rfl
      | cons y m => simp [toB] at h
    | cons x l ih => cases m with
      | nil => simp [toB] at h
      | cons y m =>
        simp only [toB, List.map_cons, List.cons.injEq] at h
        have h1 := hl x (by simp)
        have h2 := hm y (by simp)
        have e : x = y := by
          have := congrArg UInt8.toNat h.1
          simp only [UInt8.toNat_ofNat'] at this
          omega
        subst e
        rw [ih (hl.sub (by simp_all)) (hm.sub (by simp_all)) h.2]
  · intro h; rw [h]
end Go.V
