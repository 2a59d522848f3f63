/- Layer 11: Encode. -/
import Derived.Test.YtomlobgpeobnfaaRunsG
import Derived.Test.YtomlobgpeobnfaaPackA
namespace Go.Proofs.Ytomlobgpeobnfaa
open Go.V Go.V.Rn Go.V.Pk
def encR : Int → List Run → List Int
  | _, [] => []
  | e, r :: l => numB (r.1 - e).toNat ++ (numB (r.2 - r.1).toNat ++ encR r.2 l)
def encL (l : List Run) : List Int := numB l.length ++ encR 0 l
theorem blt {w : World} {b : Nat} {o : Obj} (h : w.heap[b]? = some o) : b < w.heap.size := (Array.getElem?_eq_some_iff.1 h).1
theorem pe_le {L : List Run} (hr : rightB L = true) (hu : U32 L) {j : Nat} (hj : j < L.length) : (if j = 0 then 0 else pe L j) ≤ (gr L j).1 ∧ 0 ≤ (if j = 0 then 0 else pe L j) ∧ (gr L j).1 < (gr L j).2 := by
  have hg := hu.get j
  have key : ∀ (l : List Run) (e : Int) (j : Nat), okFrom e l = true → j < l.length → (if j = 0 then e else (gr l (j - 1)).2) < (gr l j).1 ∧ (gr l j).1 < (gr l j).2 := by
    intro l
    induction l with
    | nil => intro e j _ h; simp at h
    | cons r l ih =>
      intro e j h hj
      simp only [okFrom, Bool.and_eq_true, decide_eq_true_eq] at h
      cases j with
      | zero => simp only [gr_zero, if_true]; exact ⟨h.2.1, h.1⟩
      | succ j =>
        have := ih r.2 j h.2.2 (by simpa using hj)
        cases j with
        | zero => simpa [gr_succ, gr_zero] using this
        | succ j => simpa [gr_succ] using this
  have := key L (-1) j hr hj
  by_cases h0 : j = 0
  · subst h0; simp only [if_true] at *; exact ⟨hg.1, by omega, this.2⟩
  · simp only [h0, if_false, pe] at *
    have h2 := hu.get (j - 1)
    exact ⟨by omega, h2.2.2.1, this.2⟩
def pz (L : List Run) (j : Nat) : Int := if j = 0 then 0 else pe L j
theorem pz_succ (L : List Run) (j : Nat) : pz L (j + 1) = (gr L j).2 := by simp [pz, pe_succ]
theorem enc_step {L : List Run} {j : Nat} (hj : j < L.length) (pre : List Int) (h : pre ++ encR (pz L j) (L.drop j) = encL L) :
    (pre ++ numB ((gr L j).1 - pz L j).toNat ++ numB ((gr L j).2 - (gr L j).1).toNat) ++ encR (pz L (j + 1)) (L.drop (j + 1)) = encL L := by
  rw [← h, drop_get hj, encR, pz_succ]; simp [List.append_assoc]
theorem encode_spec {l : Sl} {w : World} {K : Sl → Int → World → Prop} {L : List Run} (h : RdR w.heap l L) (hu : U32 L) (hn : L.length ≤ 9223372036854775807)
    (k0 : rightB L = false → ∀ w', Ext No w w' → K ⟨none, 0, 0⟩ 2 w') (k1 : rightB L = true → ∀ s w', OwnB w'.heap w.heap.size s (encL L) → Ext No w w' → K s 0 w') : C_runs_Encode l w K := by
  apply S_runs_Encode
  have hl := h.len
  refine right_spec h hu hn fun w1 ext1 => If.not (If.cases (fun hr => ?_) (fun hr => k0 hr w1 ext1))
  have hlen := right_len hr hu
  refine Ar.u64 (by omega) (num_spec (by omega) (by omega) fun s2 w2 own2 ext2 => ?_)
  have e0 : ((l.len : Int)).toNat = L.length := by omega
  rw [e0] at own2
  have n10 := numB_len10 (n := L.length) (by omega)
  refine ⟨fun m b endv t w' => ∃ j : Nat, t = j ∧ m = L.length - j ∧ j ≤ L.length ∧ endv = pz L j ∧ ∃ pre, OwnB w'.heap w.heap.size b pre ∧ pre.length ≤ 10 + 20 * j ∧ pre ++ encR (pz L j) (L.drop j) = encL L ∧ Ext No w w',
    ⟨_, 0, rfl, rfl, Nat.zero_le _, rfl, _, Own.mono own2 ext1.size, by omega, rfl, ext1.no ext2⟩, ?_⟩
  rintro _ m b endv t w3 ⟨j, rfl, rfl, hj, rfl, pre, own3, hpre, he, ext3⟩
  refine If.dec (fun hlt => ?_) (fun hge => ?_)
  · have hjl : j < L.length := by omega
    have hg := hu.get j
    have hp : pz L j ≤ (gr L j).1 ∧ 0 ≤ pz L j ∧ (gr L j).1 < (gr L j).2 := pe_le hr hu hjl
    refine Ix.run (h.no ext3) (by omega) hlt fun _ _ _ c1 c2 => ⟨_, c1, _, c2, range_run fun rb w5 hrb ext5 hb5 => ?_⟩
    rw [Int.toNat_natCast] at hb5
    have own5 := own3.no ext5
    have lb := OwnB.len own3
    have hblk : ∀ i, b.blk = some i → i < w3.heap.size := fun i hi => (own3.lt hi).2
    refine ⟨_, Cell.lst hb5 rfl, Ar.u32 (by omega) (Ar.u64 (by omega) (num_spec (by omega) (by omega) fun s6 w6 own6 ext6 => ?_))⟩
    have m10 := numB_len10 (n := ((gr L j).1 - pz L j).toNat) (by omega)
    have l6 := OwnB.len own6
    have z3 := ext3.size
    have z5 := ext5.size
    have z6 := ext6.size
    refine app_uint8 (own5.no ext6) (by omega) own6.rd.src (by omega) fun s7 w7 own7 len7 ext7 blk7 => ?_
    have z7 := ext7.size
    have hb7 : w7.heap[rb]? = some (pairO (gr L j).1 (gr L j).2) := by
      rw [ext7.blk rb (by have := blt hb5; omega) (fun hx => by have := hblk _ hx; omega), ext6.blk rb (blt hb5) id]; exact hb5
    refine ⟨_, Cell.lst hb7 rfl, _, Cell.lst hb7 rfl, Ar.u32 (by omega) (Ar.u64 (by omega) (num_spec (by omega) (by omega) fun s8 w8 own8 ext8 => ?_))⟩
    have m10' := numB_len10 (n := ((gr L j).2 - (gr L j).1).toNat) (by omega)
    have l8 := OwnB.len own8
    have z8 := ext8.size
    refine app_uint8 (own7.no ext8) (by omega) own8.rd.src (by omega) fun s9 w9 own9 len9 ext9 _ => ?_
    have ne7 : ¬ s7.blk = some rb := fun hx => by
      rcases blk7 with h' | ⟨b', h', hge⟩
      · rw [hx] at h'; have := hblk rb h'.symm; omega
      · rw [hx] at h'; cases h'; have := blt hb5; omega
    have hb9 : w9.heap[rb]? = some (pairO (gr L j).1 (gr L j).2) := by
      rw [ext9.blk rb (by have := blt hb7; omega) ne7, ext8.blk rb (blt hb7) id]; exact hb7
    have x7 : Ext No w w7 := ((ext3.no ext5).no ext6).trans ext7 fun i hi hb => by have := (own3.lt hb).1; omega
    have x9 : Ext No w w9 := (x7.no ext8).trans ext9 fun i hi hb => by have := (own7.lt hb).1; omega
    refine ⟨_, Cell.lst hb9 rfl, Ar.i64 (by omega) ⟨_, ?_, j + 1, by omega, rfl, by omega, (pz_succ L j).symm, pre ++ numB ((gr L j).1 - pz L j).toNat ++ numB ((gr L j).2 - (gr L j).1).toNat, ?_, ?_, enc_step hjl pre he, x9⟩⟩
    · omega
    · simpa [OwnB] using own9
    · simp only [List.length_append]; omega
  · have hnil : L.drop j = [] := List.drop_of_length_le (by omega)
    rw [hnil, encR, List.append_nil] at he
    rw [he] at own3
    exact k1 hr b w3 own3 ext3
end Go.Proofs.Ytomlobgpeobnfaa
