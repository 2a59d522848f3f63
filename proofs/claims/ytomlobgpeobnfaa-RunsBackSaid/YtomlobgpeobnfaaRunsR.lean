/- Layer 11: Drop, and the law RunsGives. -/
import Derived.Test.YtomlobgpeobnfaaRunsQ
namespace Go.Proofs.Ytomlobgpeobnfaa
open Go.V Go.V.Rn Go.V.Pk
theorem Cut.run {H : Array Obj} {s : Sl} {L : List Run} {K : Sl → Prop} {lo hi : Int} (h : RdR H s L) (h0 : 0 ≤ lo) (h1 : lo ≤ hi) (h2 : hi ≤ (s.len : Int)) (k : ∀ s', RdR H s' ((L.drop lo.toNat).take (hi - lo).toNat) → K s') : Cut s lo hi (((s.cap : Nat) : Int)) 2 K := by
  have hc := h.cap
  refine Cut.mk h0 h1 (by omega) (by omega) (k _ ?_)
  have := Rd.cut h (lo := lo.toNat) (hi := hi.toNat) (mx := s.cap) (by omega) (by omega) (by omega)
  rw [← rc_drop, ← rc_take] at this
  have e1 : (hi - lo).toNat = hi.toNat - lo.toNat := by omega
  have e2 : ((s.cap : Int) - lo).toNat = s.cap - lo.toNat := by omega
  have e3 : ((s.cap : Int)).toNat = s.cap := by omega
  rw [RdR, e1, e2, e3]
  exact this
theorem drop_place {p : Int} : ∀ {e : Int} {L : List Run}, okFrom e L = true → hasB p L = true →
    dropR p L = L.take (placeN p L) ++ (mkR (gr L (placeN p L)).1 p ++ mkR (p + 1) (gr L (placeN p L)).2) ++ L.drop (placeN p L + 1)
  | e, [], _, h => by simp [hasB] at h
  | e, r :: L, hr, h => by
    have hp := has_place (p := p) hr
    simp only [okFrom, Bool.and_eq_true, decide_eq_true_eq] at hr
    show drop1 p r ++ dropR p L = _
    by_cases h1 : p < r.2
    · have hpl : placeN p (r :: L) = 0 := by unfold placeN; rw [if_pos h1]
      rw [hpl] at hp ⊢
      rw [h, gr_zero] at hp
      have h2 : p ≥ r.1 := by simpa using hp
      rw [gr_zero, drop1, if_neg (by omega), drop_below fun x hx => by have := okFrom_beyond hr.2.2 x hx; omega]
      simp
    · have hpl : placeN p (r :: L) = placeN p L + 1 := by rw [placeN, if_neg h1]
      have h' : hasB p L = true := by simpa [hasB, h1] using h
      rw [hpl, gr_succ, drop1, if_pos (.inr (by omega)), drop_place hr.2.2 h']
      simp
theorem drop_spec {l : Sl} {p : Int} {w : World} {K : Sl → Int → World → Prop} {L : List Run} (h : RdR w.heap l L) (hu : U32 L) (hn : L.length ≤ 9223372036854775807) (hp : 0 ≤ p ∧ p ≤ 4294967295)
    (k0 : rightB L = false → ∀ w', Ext No w w' → K ⟨none, 0, 0⟩ 2 w') (k1 : rightB L = true → hasB p L = false → ∀ w', Ext No w w' → K ⟨none, 0, 0⟩ 7 w')
    (k2 : rightB L = true → hasB p L = true → ∀ s w', OwnR w'.heap w.heap.size s (dropR p L) → Ext No w w' → K s 0 w') : C_runs_Drop l p w K := by
  apply S_runs_Drop
  have hl := h.len
  refine has_spec h hu hn fun w1 ext1 => ?_
  cases hr : rightB L with
  | false => exact If.bne (fun _ => k0 hr w1 ext1) (fun h => by simp at h)
  | true =>
    refine If.bne (fun h => by simp at h) (fun _ => If.not (If.cases (fun hh => ?_) (fun hh => k1 hr (by simpa using hh) w1 ext1)))
    have hh' : hasB p L = true := by simpa using hh
    have hlen := right_len hr hu
    have hpl := has_place (p := p) hr
    rw [hh'] at hpl
    have hpl' : placeN p L < L.length ∧ p ≥ (gr L (placeN p L)).1 := by simpa using hpl.symm
    have hd := drop_place hr hh'
    have hg := hu.get (placeN p L)
    refine place_spec (h.no ext1) hn fun w2 ext2 => ?_
    have x2 := ext1.no ext2
    generalize placeN p L = t at *
    have hp1 : p < (gr L t).2 ∨ ¬ p < (gr L t).2 := by omega
    refine fun b w3 new => ?_
    have x3 := x2.no new.ext
    have z2 := x2.size
    have o3 : OwnR w3.heap w2.heap.size ⟨some ⟨b, 0, none⟩, 0, 0⟩ [] := Own.new (sz := 2) (n := 0) (cs := []) new rfl (by simp)
    have z3 := new.size
    refine Cut.run (h.no x3) (by omega) (by omega) (by omega) fun s4 r4 => ?_
    have e4 : (L.drop (0 : Int).toNat).take ((t : Int) - 0).toNat = L.take t := by simp
    rw [e4] at r4
    have l4 := RdR.len r4
    rw [List.length_take] at l4
    refine app_api_Run o3 (by omega) r4.src (by simp only; omega) fun s5 w5 o5 len5 ext5 _ => ?_
    have o5' : OwnR w5.heap w2.heap.size s5 (L.take t) := o5
    have x5 : Ext No w w5 := x3.trans ext5 fun i hi hb => by have := (o3.lt hb).1; omega
    have l5 := OwnR.len o5'
    rw [List.length_take] at l5
    refine Ix.run (h.no x5) (by omega) (by omega) fun _ _ _ c1 _ => ⟨_, c1, ?_⟩
    rw [Int.toNat_natCast]
    refine make_spec fun s6 w6 o6 ext6 => ?_
    have l6 := OwnR.len o6
    have m6 := mkR_len (gr L t).1 p
    have z6 := ext6.size
    have z5 := ext5.size
    refine app_api_Run (o5'.no ext6) (by omega) o6.rd.src (by omega) fun s7 w7 o7 len7 ext7 _ => ?_
    have o7' : OwnR w7.heap w2.heap.size s7 (L.take t ++ mkR (gr L t).1 p) := by rw [OwnR, rc_app]; exact o7
    have x7 : Ext No w w7 := (x5.no ext6).trans ext7 fun i hi hb => by have := (o5'.lt hb).1; omega
    have z7 := ext7.size
    have hpu : p + 1 ≤ 4294967295 := by
      have hin := hh'
      simp only [hasB, List.any_eq_true, Bool.and_eq_true, decide_eq_true_eq] at hin
      obtain ⟨r, hr1, hr2⟩ := hin
      have := hu r hr1; omega
    refine Ar.u32 (by omega) (Ix.run (h.no x7) (by omega) (by omega) fun _ _ _ _ c2 => ⟨_, c2, ?_⟩)
    rw [Int.toNat_natCast]
    refine make_spec fun s8 w8 o8 ext8 => ?_
    have l8 := OwnR.len o8
    have m8 := mkR_len (p + 1) (gr L t).2
    have z8 := ext8.size
    have l7 := OwnR.len o7'
    rw [List.length_append, List.length_take] at l7
    refine app_api_Run (o7'.no ext8) (by omega) o8.rd.src (by omega) fun s9 w9 o9 len9 ext9 _ => ?_
    have o9' : OwnR w9.heap w2.heap.size s9 (L.take t ++ mkR (gr L t).1 p ++ mkR (p + 1) (gr L t).2) := by rw [OwnR, rc_app]; exact o9
    have x9 : Ext No w w9 := (x7.no ext8).trans ext9 fun i hi hb => by have := (o7'.lt hb).1; omega
    have z9 := ext9.size
    refine Ar.i64 (by omega) (Cut.run (h.no x9) (by omega) (by omega) (by omega) fun s10 r10 => ?_)
    have e10 : (L.drop ((t : Int) + 1).toNat).take ((l.len : Int) - ((t : Int) + 1)).toNat = L.drop (t + 1) := by
      rw [show ((t : Int) + 1).toNat = t + 1 by omega]
      exact List.take_of_length_le (by rw [List.length_drop]; omega)
    rw [e10] at r10
    have l10 := RdR.len r10
    rw [List.length_drop] at l10
    have l9 := OwnR.len o9'
    rw [List.length_append, List.length_append, List.length_take] at l9
    refine app_api_Run o9' (by omega) r10.src (by omega) fun s11 w11 o11 _ ext11 _ => ?_
    refine k2 hr hh' s11 w11 ?_ (x9.trans ext11 fun i hi hb => by have := (o9'.lt hb).1; omega)
    have : OwnR w11.heap w2.heap.size s11 (dropR p L) := by
      rw [hd, OwnR, rc_app, ← List.append_assoc]; exact o11
    exact this.mono z2
theorem dropR_len {p : Int} : ∀ {L : List Run}, (dropR p L).length ≤ 2 * L.length
  | [] => by simp [dropR]
  | r :: L => by
    have := dropR_len (p := p) (L := L)
    have h1 : (drop1 p r).length ≤ 2 := by
      unfold drop1; split
      · simp
      · have := mkR_len r.1 p; have := mkR_len (p + 1) r.2; simp; omega
    simp only [dropR, List.flatMap_cons, List.length_append, List.length_cons] at this ⊢
    omega
structure GiveF (p : Int) (L : List Run) (s : Sl) (c : Int) (G : List Run) : Prop where
  bad : rightB L = false → s.len = 0 ∧ c = 2
  last : rightB L = true → p = 4294967295 → s.len = 0 ∧ c = 2
  there : rightB L = true → p ≠ 4294967295 → hasB p L = true → s.len = 0 ∧ c = 8
  new : rightB L = true → p ≠ 4294967295 → hasB p L = false → c = 0 ∧ G = bothR L [(p, p + 1)]
theorem give_all {l : Sl} {p : Int} {w : World} {K : Sl → Int → World → Prop} {L : List Run} (h : RdR w.heap l L) (hu : U32 L) (hn : L.length ≤ 17592186044416) (hp : 0 ≤ p ∧ p ≤ 4294967295)
    (k : ∀ s c w' G, OwnR w'.heap w.heap.size s G → G.length ≤ 17592186044417 → GiveF p L s c G → Ext No w w' → K s c w') : C_runs_Give l p w K := by
  refine give_spec h hu (by omega) hp (fun hr w' ext => k _ _ w' [] (Own.nil _ _ _ _) (by simp) (by constructor <;> simp_all) ext)
    (fun hr e w' ext => k _ _ w' [] (Own.nil _ _ _ _) (by simp) (by constructor <;> simp_all) ext)
    (fun hr e hh w' ext => k _ _ w' [] (Own.nil _ _ _ _) (by simp) (by constructor <;> simp_all) ext)
    (fun hr e hh s w' o ext => k s _ w' _ o ?_ (by constructor <;> simp_all) ext)
  have := (bothF_u32 (out := []) (a := L) (b := [(p, p + 1)]) (fun _ h => by cases h) hu (fun x hx => by simp at hx; subst hx; exact ⟨by omega, by omega, by simp only; omega, by simp only; omega⟩)).2
  simp only [List.length_nil, List.length_singleton] at this
  unfold bothR; omega
structure DropF (p : Int) (L : List Run) (s : Sl) (c : Int) (G : List Run) : Prop where
  bad : rightB L = false → s.len = 0 ∧ c = 2
  none : rightB L = true → hasB p L = false → s.len = 0 ∧ c = 7
  there : rightB L = true → hasB p L = true → c = 0 ∧ G = dropR p L
theorem drop_all {l : Sl} {p : Int} {w : World} {K : Sl → Int → World → Prop} {L : List Run} (h : RdR w.heap l L) (hu : U32 L) (hn : L.length ≤ 17592186044416) (hp : 0 ≤ p ∧ p ≤ 4294967295)
    (k : ∀ s c w' G, OwnR w'.heap w.heap.size s G → G.length ≤ 35184372088832 → DropF p L s c G → Ext No w w' → K s c w') : C_runs_Drop l p w K := by
  refine drop_spec h hu (by omega) hp (fun hr w' ext => k _ _ w' [] (Own.nil _ _ _ _) (by simp) (by constructor <;> simp_all) ext)
    (fun hr hh w' ext => k _ _ w' [] (Own.nil _ _ _ _) (by simp) (by constructor <;> simp_all) ext)
    (fun hr hh s w' o ext => k s _ w' _ o ?_ (by constructor <;> simp_all) ext)
  have := dropR_len (p := p) (L := L); omega
theorem runsGives_spec {l : Sl} {p : Int} {w : World} {L : List Run} (h : RdR w.heap l L) (hu : U32 L) (hn : L.length ≤ 17592186044416) (hp : 0 ≤ p ∧ p ≤ 4294967295) : C_law11_RunsGives l p w (Tr w) := by
  apply S_law11_RunsGives
  refine own_spec h hn fun s1 w1 o1 ext1 => give_all o1.rd hu hn hp fun g gc w2 G og hG fg ext2 => drop_all (o1.rd.no ext2) hu hn hp fun d dc w3 D od hD fd ext3 => ?_
  have e3 := ext2.no ext3
  have x3 := ext1.no e3
  have og3 := og.no ext3
  have z2 := ext2.size
  refine refSame_spec (o1.rd.no e3) (h.no x3) (by omega) fun w4 ext4 => If.not (If.cases (fun _ => ?_) (fun h => by simp at h))
  have x4 := x3.no ext4
  refine refRight_spec (h.no x4) hu (by omega) fun w5 ext5 => If.not (If.cases (fun hr => ?_) (fun hr => ?_))
  · have hlen := right_len hr hu
    have x5 := x4.no ext5
    have e5 : Ext No w3 w5 := ext4.no ext5
    refine refHas_spec (h.no x5) (by omega) ⟨fun w' => Ext No w3 w', ?_, ?_⟩
    · refine If.beq (fun e => ?_) (fun e => If.cases (fun hh => ?_) (fun hh => ?_))
      · obtain ⟨a1, a2⟩ := fg.last hr e
        exact If.bne (fun h => by omega) (fun _ => If.bne (fun h => absurd a2 h) (fun _ => e5))
      · obtain ⟨a1, a2⟩ := fg.there hr e hh
        exact If.bne (fun h => by omega) (fun _ => If.bne (fun h => absurd a2 h) (fun _ => e5))
      · obtain ⟨a1, a2⟩ := fg.new hr e hh
        refine If.bne (fun h => absurd a1 h) (fun _ => refGive_spec (h.no x5) (by omega) hlen fun s8 w8 o8 ext8 => ?_)
        rw [give_eq hr hh, ← a2] at o8
        exact refSame_spec ((og3.rd.no e5).no ext8) o8.rd (by omega) fun w9 ext9 => If.not (If.cases (fun _ => (e5.no ext8).no ext9) (fun h => by simp at h))
    · intro _ w10 ext10
      have x10 := x3.no ext10
      refine ⟨fun w' => Ext No w3 w', ?_, ?_⟩
      · refine If.not (If.cases (fun hh => ?_) (fun hh => ?_))
        · obtain ⟨a1, a2⟩ := fd.there hr hh
          refine If.bne (fun h => absurd a1 h) (fun _ => refDrop_spec (h.no x10) hu hp.1 hlen fun s11 w11 o11 ext11 => ?_)
          rw [← a2] at o11
          exact refSame_spec ((od.rd.no ext10).no ext11) o11.rd (by omega) fun w12 ext12 => If.not (If.cases (fun _ => (ext10.no ext11).no ext12) (fun h => by simp at h))
        · obtain ⟨a1, a2⟩ := fd.none hr hh
          exact If.bne (fun h => by omega) (fun _ => If.bne (fun h => absurd a2 h) (fun _ => ext10))
      · intro _ w13 ext13
        have og13 := og3.no ext13
        have od13 := od.no ext13
        refine spoil_spec og13 (by omega) fun w14 ext14 => ?_
        have od14 : OwnR w14.heap w2.heap.size d D := od13.ext ext14 fun b hb hg => by have := (od13.lt hb).1; have := (og.lt hg).2; omega
        refine spoil_spec od14 (by omega) fun w15 ext15 => ?_
        have sp : Ext No w1 w15 := ((e3.no ext13).trans ext14 fun i hi hb => by have := (og13.lt hb).1; omega).trans ext15 fun i hi hb => by have := (od14.lt hb).1; omega
        exact refSame_spec (o1.rd.no sp) (h.no (ext1.no sp)) (by omega) fun w16 ext16 => If.cases (fun _ => known_tr ((ext1.no sp).no ext16)) (fun h => by simp at h)
  · obtain ⟨a1, a2⟩ := fg.bad hr
    obtain ⟨a3, a4⟩ := fd.bad hr
    exact If.beq (fun _ => If.beq (fun _ => If.beq (fun _ => If.beq (fun _ => known_tr (x4.no ext5)) (fun h => absurd a4 h)) (fun h => by omega)) (fun h => absurd a2 h)) (fun h => by omega)
end Go.Proofs.Ytomlobgpeobnfaa
