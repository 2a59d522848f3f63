/- Layer 11: Give and Drop against the document. -/
import Derived.Test.YtomlobgpeobnfaaRunsP
namespace Go.Proofs.Ytomlobgpeobnfaa
open Go.V Go.V.Rn Go.V.Pk
def joinR (O : List Run) (r : Run) : List Run := if 0 < O.length ∧ lastTo O = r.1 then setTo O (O.length - 1) r.2 else O ++ [r]
def giveF (p : Int) : List Run → Bool → List Run → List Run
  | O, true, [] => O
  | O, false, [] => joinR O (p, p + 1)
  | O, true, r :: l => giveF p (joinR O r) true l
  | O, false, r :: l => if r.1 > p then giveF p (joinR (joinR O (p, p + 1)) r) true l else giveF p (joinR O r) false l
theorem lastTo_app (O : List Run) (r : Run) : lastTo (O ++ [r]) = r.2 := by unfold lastTo; rw [List.length_append, List.length_singleton, Nat.add_sub_cancel, gr_app_right]
theorem lastTo_set {O : List Run} {z : Int} (h : 0 < O.length) : lastTo (setTo O (O.length - 1) z) = z := by
  unfold lastTo; rw [setTo_len]
  have : O.length - 1 < O.length := by omega
  simp [gr, setTo, this]
theorem lastTo_join (O : List Run) (r : Run) : lastTo (joinR O r) = r.2 ∧ 0 < (joinR O r).length := by
  unfold joinR; split
  · rename_i h; exact ⟨lastTo_set h.1, by rw [setTo_len]; exact h.1⟩
  · exact ⟨lastTo_app O r, by simp⟩
theorem joinR_len {O : List Run} {r : Run} : (joinR O r).length ≤ O.length + 1 := by unfold joinR; split <;> simp [setTo_len]
theorem add_join {O : List Run} {r : Run} (h : 0 < O.length → lastTo O ≤ r.1) (hr : r.1 < r.2) : addR O r = joinR O r := by
  unfold addR joinR
  by_cases h0 : 0 < O.length ∧ lastTo O = r.1
  · rw [if_pos h0, if_pos ⟨h0.1, by omega⟩]
    congr 1
    unfold iMax; rw [if_pos (by omega)]
  · rw [if_neg h0, if_neg]
    rintro ⟨h1, h2⟩; have := h h1; exact h0 ⟨h1, by omega⟩
theorem give_done {p : Int} : ∀ {l O : List Run} {e : Int}, okFrom e l = true → (0 < O.length → lastTo O ≤ e) → giveF p O true l = bothF O l []
  | [], O, e, _, _ => by rw [giveF, bothF]
  | r :: l, O, e, h, ho => by
    simp only [okFrom, Bool.and_eq_true, decide_eq_true_eq] at h
    rw [giveF, bothF, add_join (fun h0 => by have := ho h0; omega) h.1]
    exact give_done h.2.2 fun _ => by rw [(lastTo_join O r).1]; exact Int.le_refl _
theorem give_both {p : Int} : ∀ {l O : List Run} {e : Int}, okFrom e l = true → (∀ r ∈ l, p < r.1 ∨ r.2 ≤ p) → (0 < O.length → lastTo O ≤ e ∧ lastTo O ≤ p) → giveF p O false l = bothF O l [(p, p + 1)]
  | [], O, e, _, _, ho => by
    rw [giveF, bothF, bothF, add_join (fun h0 => (ho h0).2) (by simp only; omega)]
  | r :: l, O, e, h, hp, ho => by
    simp only [okFrom, Bool.and_eq_true, decide_eq_true_eq] at h
    have hr := hp r List.mem_cons_self
    rw [giveF, bothF]
    by_cases hgt : r.1 > p
    · rw [if_pos hgt, if_neg (by simp only; omega), bothF, add_join (r := (p, p + 1)) (fun h0 => (ho h0).2) (by simp only; omega),
        add_join (fun _ => by rw [(lastTo_join O (p, p + 1)).1]; simp only; omega) h.1]
      exact give_done h.2.2 fun _ => by rw [(lastTo_join _ r).1]; exact Int.le_refl _
    · rw [if_neg hgt, if_pos (by simp only; omega), add_join (fun h0 => by have := ho h0; omega) h.1]
      exact give_both h.2.2 (fun x hx => hp x (List.mem_cons_of_mem _ hx)) fun _ => by rw [(lastTo_join O r).1]; omega
theorem has_not {p : Int} {l : List Run} (h : hasB p l = false) : ∀ r ∈ l, p < r.1 ∨ r.2 ≤ p := fun r hr => by
  have := List.any_eq_false.1 h r hr
  simp at this; omega
theorem give_eq {p : Int} {L : List Run} (hr : rightB L = true) (hh : hasB p L = false) : giveF p [] false L = bothR L [(p, p + 1)] := give_both hr (has_not hh) fun h => by simp at h
theorem grown_spec {l : Sl} {p : Int} {w : World} {base : Nat} {K : Sl → World → Prop} {O : List Run} (o : OwnR w.heap base l O) (hbase : base ≤ w.heap.size) (hp : 0 ≤ p ∧ p < 4294967295) (hn : O.length ≤ 8796093022208)
    (k : ∀ s w', OwnR w'.heap base s (joinR O (p, p + 1)) → Ext (fun b => l.blk = some b) w w' → K s w') : C_ref11_grown l p w K := by
  apply S_ref11_grown
  have hl := OwnR.len o
  have e1 : ((l.len : Int) - 1).toNat = O.length - 1 := by omega
  refine ⟨fun w' => w' = w ∧ ¬ (0 < O.length ∧ lastTo O = p), ⟨fun t w' => w' = w ∧ t = decide (0 < O.length ∧ lastTo O = p), ?_, ?_⟩, ?_⟩
  · refine If.dec (fun h => Ar.i64 (by omega) (Ix.run o.rd (by omega) (by omega) fun _ _ _ _ c2 => ⟨_, c2, rfl, ?_⟩)) (fun h => ⟨rfl, ?_⟩)
    · rw [e1, Bool.eq_iff_iff, beq_iff_eq, decide_eq_true_eq]
      exact ⟨fun h' => ⟨by omega, h'⟩, fun h' => h'.2⟩
    · symm; rw [decide_eq_false_iff_not]; rintro ⟨h1, _⟩; omega
  · rintro _ t w1 ⟨rfl, rfl⟩
    refine If.dec (fun h => Ar.i64 (by omega) (Ar.u32 (by omega) (St1.run o (by omega) (by omega) fun w2 o2 ext2 _ => k l w2 ?_ ext2))) (fun h => ⟨rfl, h⟩)
    unfold joinR; rw [if_pos h, ← e1]; exact o2
  · rintro _ w3 ⟨rfl, h⟩
    refine Ar.u32 (by omega) (appR (r := (p, p + 1)) o hbase hn fun s' w4 o4 ext4 => k s' w4 ?_ ext4)
    unfold joinR; rw [if_neg h]; exact o4
theorem refGive_spec {l : Sl} {p : Int} {w : World} {K : Sl → World → Prop} {L : List Run} (h : RdR w.heap l L) (hp : 0 ≤ p ∧ p < 4294967295) (hn : L.length ≤ 2147483648)
    (k : ∀ s w', OwnR w'.heap w.heap.size s (giveF p [] false L) → Ext No w w' → K s w') : C_ref11_Give l p w K := by
  apply S_ref11_Give
  have hl := h.len
  have grow : ∀ {w1 w2 : World} {s : Sl} {M : List Run}, Ext No w w1 → OwnR w1.heap w.heap.size s M → Ext (fun b => s.blk = some b) w1 w2 → Ext No w w2 := fun e o x => e.trans x fun i hi hb => by have := (o.lt hb).1; omega
  refine ⟨fun m out done i w' => ∃ j : Nat, i = j ∧ m = L.length - j ∧ j ≤ L.length ∧ ∃ O, OwnR w'.heap w.heap.size out O ∧ O.length ≤ 2 * j ∧ giveF p O done (L.drop j) = giveF p [] false L ∧ Ext No w w',
    ⟨_, 0, rfl, rfl, Nat.zero_le _, [], Own.nil _ _ _ _, Nat.zero_le _, rfl, Ext.refl _ _⟩, ?_⟩
  rintro _ m out done i w1 ⟨j, rfl, rfl, hj, O, own, hO, he, ext⟩
  refine If.dec (fun hlt => ?_) (fun hge => ?_)
  · have hjl : j < L.length := by omega
    have hix : ∀ {w' : World} {K : Addr → Prop}, Ext No w w' → (∀ b o, l.blk = some b → Cell w' ⟨b, o, none⟩ (.int .u32 (gr L j).1) → Cell w' ((⟨b, o, none⟩ : Addr).add 1) (.int .u32 (gr L j).2) → K ⟨b, o, none⟩) → Ix l.a l.len (j : Int) 2 K := fun {w' K} e kk =>
      Ix.run (w := w') (h.no e) (by omega) hlt fun b o hb c1 c2 => by rw [Int.toNat_natCast] at c1 c2; exact kk b o hb c1 c2
    rw [drop_get hjl] at he
    refine ⟨fun out1 d w3 => ∃ O1, OwnR w3.heap w.heap.size out1 O1 ∧ O1.length ≤ 2 * j + 1 ∧ giveF p (joinR O1 (gr L j)) d (L.drop (j + 1)) = giveF p [] false L ∧ Ext No w w3, ?_, ?_⟩
    · cases done with
      | true =>
        rw [giveF] at he
        exact If.not (If.yes ⟨O, own, by omega, he, ext⟩)
      | false =>
        rw [giveF] at he
        refine If.not (If.no (hix ext fun _ _ _ c1 _ => ⟨_, c1, If.dec (fun h1 => grown_spec own ext.size hp (by omega) fun s2 w2 o2 ext2 => ⟨_, o2, by have := @joinR_len O (p, p + 1); omega, ?_, grow ext own ext2⟩) (fun h1 => ⟨O, own, by omega, ?_, ext⟩)⟩))
        · rw [if_pos h1] at he; exact he
        · rw [if_neg h1] at he; exact he
    · rintro _ out1 d w3 ⟨O1, own3, hO1, he3, ext3⟩
      have l3 := OwnR.len own3
      have e1 : ((out1.len : Int) - 1).toNat = O1.length - 1 := by omega
      refine ⟨fun t w4 => w4 = drewW w3 ∧ t = decide (0 < O1.length ∧ lastTo O1 = (gr L j).1), ?_, ?_⟩
      · refine ⟨Ext No w3, (Ext.refl _ _).drew, If.dec (fun h1 => Ar.i64 (by omega) (Ix.run own3.rd (by omega) (by omega) fun _ _ _ _ c2 => ⟨_, Held.cell1 c2, hix ext3 fun _ _ _ c1 _ => ⟨_, Held.cell c1, rfl, ?_⟩⟩)) (fun h1 => ⟨rfl, ?_⟩)⟩
        · rw [e1, Bool.eq_iff_iff, beq_iff_eq, decide_eq_true_eq]
          exact ⟨fun h' => ⟨by omega, h'⟩, fun h' => h'.2⟩
        · symm; rw [decide_eq_false_iff_not]; rintro ⟨h2, _⟩; omega
      · rintro _ t w4 ⟨rfl, rfl⟩
        have own4 : OwnR (drewW w3).heap w.heap.size out1 O1 := own3
        have ext4 : Ext No w (drewW w3) := ext3.drew
        refine If.dec (fun h1 => Ar.i64 (by omega) (hix ext4 fun _ _ _ _ c2 => ⟨_, c2, St1.run own4 (by omega) (by omega) fun w5 o5 ext5 _ => Ar.i64 (by omega) ⟨_, ?_, j + 1, by omega, rfl, by omega, joinR O1 (gr L j), ?_, ?_, he3, grow ext4 own4 ext5⟩⟩)) (fun h1 => hix ext4 fun _ _ _ c1 c2 => ⟨_, c1, _, c2, appR (r := gr L j) own4 ext4.size (by omega) fun s' w6 o6 ext6 => Ar.i64 (by omega) ⟨_, ?_, j + 1, by omega, rfl, by omega, joinR O1 (gr L j), ?_, ?_, he3, grow ext4 own4 ext6⟩⟩)
        · omega
        · unfold joinR; rw [if_pos h1, ← e1]; exact o5
        · have := @joinR_len O1 (gr L j); omega
        · omega
        · unfold joinR; rw [if_neg h1]; exact o6
        · have := @joinR_len O1 (gr L j); omega
  · have hnil : L.drop j = [] := List.drop_of_length_le (by omega)
    rw [hnil] at he
    cases done with
    | true => rw [giveF] at he; rw [he] at own; exact If.not (If.yes (k out w1 own ext))
    | false => rw [giveF] at he; exact If.not (If.no (grown_spec own ext.size hp (by omega) fun s2 w2 o2 ext2 => k s2 w2 (by rw [← he]; exact o2) (grow ext own ext2)))
end Go.Proofs.Ytomlobgpeobnfaa
