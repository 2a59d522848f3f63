/- Layer 11: the law RunsEncodes. -/
import Derived.Test.YtomlobgpeobnfaaRunsH
namespace Go.Proofs.Ytomlobgpeobnfaa
open Go.V Go.V.Rn Go.V.Pk
theorem refEncode_spec {l : Sl} {w : World} {K : Sl → World → Prop} {L : List Run} (h : RdR w.heap l L) (hu : U32 L) (hr : rightB L = true)
    (k : ∀ s w', OwnB w'.heap w.heap.size s (encL L) → Ext No w w' → K s w') : C_ref11_Encode l w K := by
  apply S_ref11_Encode
  have hl := h.len
  have hlen := right_len hr hu
  refine Ar.u64 (by omega) (refNum_spec _ (Nat.le_refl _) (by omega) (by omega) fun s2 w2 own2 ext2 => ?_)
  have e0 : ((l.len : Int)).toNat = L.length := by omega
  rw [e0] at own2
  have n10 := numB_len10 (n := L.length) (by omega)
  refine ⟨fun m b endv t w' => ∃ j : Nat, t = j ∧ m = L.length - j ∧ j ≤ L.length ∧ endv = pz L j ∧ ∃ pre, OwnB w'.heap w.heap.size b pre ∧ pre.length ≤ 10 + 20 * j ∧ pre ++ encR (pz L j) (L.drop j) = encL L ∧ Ext No w w',
    ⟨_, 0, rfl, rfl, Nat.zero_le _, rfl, _, own2, by omega, rfl, ext2⟩, ?_⟩
  rintro _ m b endv t w3 ⟨j, rfl, rfl, hj, rfl, pre, own3, hpre, he, ext3⟩
  refine If.dec (fun hlt => ?_) (fun hge => ?_)
  · have hjl : j < L.length := by omega
    have hg := hu.get j
    have hp : pz L j ≤ (gr L j).1 ∧ 0 ≤ pz L j ∧ (gr L j).1 < (gr L j).2 := pe_le hr hu hjl
    have lb := OwnB.len own3
    have hne : rc L ≠ [] := by intro e; have := rc_len L; rw [e] at this; simp at this; omega
    refine Ix.run (h.no ext3) (by omega) hlt fun _ _ _ c1 c2 => ⟨_, c1, ?_⟩
    rw [Int.toNat_natCast]
    refine Ar.u32 (by omega) (Ar.u64 (by omega) (refNum_spec _ (Nat.le_refl _) (by omega) (by omega) fun s6 w6 own6 ext6 => ?_))
    have m10 := numB_len10 (n := ((gr L j).1 - pz L j).toNat) (by omega)
    have l6 := OwnB.len own6
    have z3 := ext3.size
    have z6 := ext6.size
    refine app_uint8 (own3.no ext6) (by omega) own6.rd.src (by omega) fun s7 w7 own7 len7 ext7 blk7 => ?_
    have z7 := ext7.size
    have x7 : Ext No w w7 := (ext3.no ext6).trans ext7 fun i hi hb => by have := (own3.lt hb).1; omega
    have ne7 : ∀ i, l.blk = some i → ¬ s7.blk = some i := fun i hi hx => by
      have h1 := (own7.lt hx).1
      have h2 := h.lt hne hi
      omega
    refine ⟨Ext (fun i => s7.blk = some i) w7, (Ext.refl _ _).drew, Ix.run (h.no x7) (by omega) hlt fun _ _ hb _ c2 => ⟨_, Held.but1 c2 (ne7 _ hb), Ix.run (h.no x7) (by omega) hlt fun _ _ hb c1 _ => ⟨_, Held.but c1 (ne7 _ hb), ?_⟩⟩⟩
    rw [Int.toNat_natCast]
    refine Ar.u32 (by omega) (Ar.u64 (by omega) (refNum_spec _ (Nat.le_refl _) (by omega) (by omega) fun s8 w8 own8 ext8 => ⟨ext8.drew_left.of_no, ?_⟩))
    have m10' := numB_len10 (n := ((gr L j).2 - (gr L j).1).toNat) (by omega)
    have l8 := OwnB.len own8
    have z8 := ext8.drew_left.size
    refine app_uint8 (own7.no ext8.drew_left) (by omega) own8.rd.src (by omega) fun s9 w9 own9 len9 ext9 _ => ⟨ext8.drew_left.of_no.trans ext9 (fun _ _ h => h), ?_⟩
    have x9 : Ext No w w9 := (x7.no ext8.drew_left).trans ext9 fun i hi hb => by have := (own7.lt hb).1; omega
    refine Ix.run (h.no x9) (by omega) hlt fun _ _ _ _ c2 => ⟨_, c2, ?_⟩
    rw [Int.toNat_natCast]
    refine Ar.i64 (by omega) ⟨_, ?_, j + 1, by omega, rfl, by omega, (pz_succ L j).symm, pre ++ numB ((gr L j).1 - pz L j).toNat ++ numB ((gr L j).2 - (gr L j).1).toNat, ?_, ?_, enc_step hjl pre he, x9⟩
    · omega
    · simpa [OwnB] using own9
    · simp only [List.length_append]; omega
  · have hnil : L.drop j = [] := List.drop_of_length_le (by omega)
    rw [hnil, encR, List.append_nil] at he
    rw [he] at own3
    exact k b w3 own3 ext3
theorem encR_b8 : ∀ (l : List Run) (e : Int), B8 (encR e l)
  | [], _ => B8.nil
  | r :: l, e => by rw [encR]; exact (numB_b8 _).append ((numB_b8 _).append (encR_b8 l r.2))
theorem encL_b8 (l : List Run) : B8 (encL l) := (numB_b8 _).append (encR_b8 l 0)
theorem runsEncodes_spec {l : Sl} {w : World} {L : List Run} (h : RdR w.heap l L) (hu : U32 L) (hn : L.length ≤ 9223372036854775807) : C_law11_RunsEncodes l w (Tr w) := by
  apply S_law11_RunsEncodes
  refine encode_spec h hu hn (fun hr w1 ext1 => ?_) (fun hr s1 w1 own1 ext1 => ?_)
  · refine refRight_spec (h.no ext1) hu hn fun w2 ext2 => If.not (If.cases (fun h => by rw [hr] at h; cases h) (fun _ => If.beq (fun _ => If.beq (fun _ => known_tr (ext1.no ext2)) (fun h => by simp at h)) (fun h => by simp at h)))
  · refine refRight_spec (h.no ext1) hu hn fun w2 ext2 => If.not (If.cases (fun _ => If.beq (fun _ => ?_) (fun h => by simp at h)) (fun h => by rw [hr] at h; cases h))
    have ext' := ext1.no ext2
    refine refEncode_spec (h.no ext') hu hr fun s4 w4 own4 ext4 => ?_
    refine same_spec ((own1.rd.no ext2).no ext4) own4.rd (encL_b8 L) (encL_b8 L) ?_
    exact If.cases (fun _ => known_tr (ext'.no ext4)) (fun h => by simp at h)
end Go.Proofs.Ytomlobgpeobnfaa
