/- Layer 11: the law RunsBoth. -/
import Derived.Test.YtomlobgpeobnfaaRunsM
namespace Go.Proofs.Ytomlobgpeobnfaa
open Go.V Go.V.Rn Go.V.Pk
theorem runsBoth_spec {a b : Sl} {w : World} {A B : List Run} (ha : RdR w.heap a A) (hb : RdR w.heap b B) (hua : U32 A) (hub : U32 B) (na : A.length ≤ 17592186044416) (nb : B.length ≤ 17592186044416) : C_law11_RunsBoth a b w (Tr w) := by
  apply S_law11_RunsBoth
  refine own_spec ha na fun sa w1 oa ext1 => own_spec (hb.no ext1) nb fun sb w2 ob ext2 => ?_
  have x2 := ext1.no ext2
  have oa2 := oa.no ext2
  refine both_spec oa2.rd ob.rd hua hub (by omega) (by omega) fun s3 w3 o3 ext3 => ?_
  have x3 := x2.no ext3
  refine ⟨fun w' => Ext No w3 w', ?_, ?_⟩
  · refine refSame_spec (oa2.rd.no ext3) (ha.no x3) (by omega) fun w4 ext4 => If.not (If.cases (fun _ => ?_) (fun h => by simp at h))
    exact refSame_spec ((ob.rd.no ext3).no ext4) (hb.no (x3.no ext4)) (by omega) fun w5 ext5 => If.not (If.cases (fun _ => ext4.no ext5) (fun h => by simp at h))
  · intro _ w6 ext6
    have x6 := x3.no ext6
    refine ⟨fun w' => (rightB A && rightB B) = true ∧ Ext No w3 w', ⟨fun t w' => t = !(rightB A && rightB B) ∧ Ext No w3 w', ?_, ?_⟩, ?_⟩
    · refine refRight_spec (ha.no x6) hua (by omega) fun w7 ext7 => If.not (If.cases (fun hr => ?_) (fun hr => ⟨by rw [hr]; rfl, ext6.no ext7⟩))
      exact refRight_spec (hb.no (x6.no ext7)) hub (by omega) fun w8 ext8 => ⟨by rw [hr]; rfl, (ext6.no ext7).no ext8⟩
    · rintro _ t w9 ⟨rfl, ext9⟩
      refine If.not (If.cases (fun hr => ⟨hr, ext9⟩) (fun hr => ?_))
      rw [hr] at o3 ⊢
      have l3 := OwnR.len o3
      simp only [Bool.false_eq_true, if_false, List.length_nil] at l3
      exact If.beq (fun _ => If.beq (fun _ => known_tr (x3.no ext9)) (fun h => by simp at h)) (fun h => by omega)
    · rintro _ w11 ⟨hr, ext11⟩
      have hra : rightB A = true ∧ rightB B = true := by simpa using hr
      have hla := right_len hra.1 hua
      have hlb := right_len hra.2 hub
      rw [hr] at o3 ⊢
      simp only [if_true] at o3 ⊢
      have hlo := (bothF_u32 (out := []) (fun _ h => by cases h) hua hub).2
      have x11 := x3.no ext11
      refine ⟨fun w' => Ext No w3 w', ?_, ?_⟩
      · refine If.bne (fun h => absurd rfl h) (fun _ => refBoth_spec (ha.no x11) (hb.no x11) (by omega) fun s12 w12 o12 ext12 => ?_)
        exact refSame_spec ((o3.rd.no ext11).no ext12) o12.rd (by simp only [List.length_nil] at hlo; unfold bothR; omega) fun w13 ext13 => If.not (If.cases (fun _ => (ext11.no ext12).no ext13) (fun h => by simp at h))
      · intro _ w14 ext14
        have o14 := o3.no ext14
        refine spoil_spec o14 (by simp only [List.length_nil] at hlo; unfold bothR; omega) fun w15 ext15 => ?_
        have z2 := x2.size
        have sp : Ext No w2 w15 := (ext3.no ext14).trans ext15 fun i hi hb => by have := (o14.lt hb).1; omega
        have x15 : Ext No w w15 := x2.no sp
        refine refSame_spec (oa2.rd.no sp) (ha.no x15) (by omega) fun w16 ext16 => If.cases (fun _ => ?_) (fun h => by simp at h)
        exact refSame_spec ((ob.rd.no sp).no ext16) (hb.no (x15.no ext16)) (by omega) fun w17 ext17 => If.cases (fun _ => known_tr ((x15.no ext16).no ext17)) (fun h => by simp at h)
end Go.Proofs.Ytomlobgpeobnfaa
