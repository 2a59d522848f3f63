/- Layer 11: Pages. -/
import Derived.Test.YtomlobgpeobnfaaRunsI
namespace Go.Proofs.Ytomlobgpeobnfaa
open Go.V Go.V.Rn Go.V.Pk
abbrev OwnW (h : Array Obj) (base : Nat) (s : Sl) (l : List Int) : Prop := Own h base T_uint32 1 s (l.map (Value.int .u32))
theorem OwnW.len {h : Array Obj} {base : Nat} {s : Sl} {l : List Int} (o : OwnW h base s l) : s.len = l.length := by have := Own.len o; simp at this; exact this.symm
/-- The pages from p on, n of them. -/
def rise (p : Int) : Nat → List Int
  | 0 => []
  | n + 1 => p :: rise (p + 1) n
theorem rise_len (p : Int) : ∀ n, (rise p n).length = n
  | 0 => rfl
  | n + 1 => by simp [rise, rise_len (p + 1) n]
def pagesR : List Run → List Int
  | [] => []
  | r :: l => rise r.1 (r.2 - r.1).toNat ++ pagesR l
theorem pagesR_len : ∀ {e : Int} {l : List Run}, okFrom e l = true → ((pagesR l).length : Int) = countI l
  | e, [], _ => rfl
  | e, r :: l, h => by
    simp only [okFrom, Bool.and_eq_true, decide_eq_true_eq] at h
    have := pagesR_len h.2.2
    simp only [pagesR, List.length_append, rise_len, countI]; omega
/-- The inner loop: pages p .. q - 1 are appended. -/
theorem rise_step {p q : Int} (h : p < q) : rise p (q - p).toNat = p :: rise (p + 1) (q - (p + 1)).toNat := by
  have : (q - p).toNat = (q - (p + 1)).toNat + 1 := by omega
  rw [this, rise]
theorem rise_done {p q : Int} (h : ¬ p < q) : rise p (q - p).toNat = [] := by
  have : (q - p).toNat = 0 := by omega
  rw [this, rise]
theorem pages_step {L : List Run} {j : Nat} (hj : j < L.length) : pagesR (L.drop j) = rise (gr L j).1 ((gr L j).2 - (gr L j).1).toNat ++ pagesR (L.drop (j + 1)) := by
  rw [drop_get hj, pagesR]
theorem app1 {w : World} {base : Nat} {s : Sl} {l : List Int} {p : Int} {K : Sl → World → Prop} (own : OwnW w.heap base s l) (hbase : base ≤ w.heap.size) (hl : l.length ≤ 17592186044416)
    (k : ∀ s' w', OwnW w'.heap base s' (l ++ [p]) → Ext (fun b => s.blk = some b) w w' → (s'.blk = s.blk ∨ ∃ b, s'.blk = some b ∧ w.heap.size ≤ b) → K s' w') :
    NewW w (.cells [.int .u32 p].toArray 24) fun b w1 => AppW Try.prog 54 54 s (.slice (some (Addr.mk b 0 none)) 1 1) K w1 := by
  intro b w1 new
  have := new.size
  have hs := OwnW.len own
  refine app_uint32 (own.no new.ext) (by omega) ((Own.new (sz := 1) (n := 1) new rfl (by simp [oneC])).rd.src) (by simp only; omega) fun s' w2 own' _ ext' blk => k s' w2 (by simpa [OwnW] using own') ((new.ext.of_no (S := fun b => s.blk = some b)).trans ext' fun _ _ h => h) ?_
  rcases blk with h | ⟨b', h, hge⟩
  · exact .inl h
  · exact .inr ⟨b', h, by omega⟩
theorem pages_spec {l : Sl} {most : Int} {w : World} {K : Sl → Int → World → Prop} {L : List Run} (h : RdR w.heap l L) (hu : U32 L) (hn : L.length ≤ 9223372036854775807) (hm : most ≤ 9223372036854775807)
    (k0 : rightB L = false ∨ most < 0 → ∀ w', Ext No w w' → K ⟨none, 0, 0⟩ 2 w') (k1 : rightB L = true → 0 ≤ most → countI L > most → ∀ w', Ext No w w' → K ⟨none, 0, 0⟩ 3 w')
    (k2 : rightB L = true → 0 ≤ most → countI L ≤ most → ∀ s w', OwnW w'.heap w.heap.size s (pagesR L) → Ext No w w' → K s 0 w') : C_runs_Pages l most w K := by
  apply S_runs_Pages
  have hl := h.len
  refine count_spec h hu hn fun w1 ext1 => ?_
  refine ⟨fun w' => rightB L = true ∧ 0 ≤ most ∧ countI L ≤ most ∧ Ext No w w', ⟨fun t w' => t = decide (rightB L = false ∨ most < 0) ∧ Ext No w w', ?_, ?_⟩, ?_⟩
  · cases hr : rightB L with
    | false => exact If.bne (fun _ => ⟨by simp, ext1⟩) (fun h => by simp at h)
    | true => exact If.bne (fun h => by simp at h) (fun _ => ⟨by simp, ext1⟩)
  · rintro _ t w2 ⟨rfl, ext2⟩
    refine If.dec (fun h => k0 h w2 ext2) (fun h => ?_)
    have hr : rightB L = true := by cases e : rightB L with
      | true => rfl
      | false => exact absurd (.inl e) h
    have hm0 : 0 ≤ most := by omega
    rw [hr]
    exact Ar.u64 (by omega) (If.dec (fun h1 => k1 hr hm0 h1 w2 ext2) (fun h1 => ⟨rfl, hm0, by simp only [if_true] at h1; omega, ext2⟩))
  · rintro _ w3 ⟨hr, hm0, hcm, ext3⟩
    have hc := countI_range hr hu (by omega) (by omega)
    have hpl := pagesR_len hr
    rw [hr]
    refine MkW.mk (by omega) (by simp only [if_true]; omega) (by simp only [if_true]; omega) (by simp only [if_true]; omega) fun b w4 new4 => ?_
    have own4 := Own.make (l := 0) new4 (Nat.zero_le _) (by simp [oneC])
    have z3 := ext3.size
    refine ⟨fun m out t w' => ∃ j : Nat, t = j ∧ m = L.length - j ∧ j ≤ L.length ∧ ∃ pre, OwnW w'.heap w.heap.size out pre ∧ pre ++ pagesR (L.drop j) = pagesR L ∧ Ext No w w',
      ⟨_, 0, rfl, rfl, Nat.zero_le _, [], Own.mono own4 z3, rfl, ext3.no new4.ext⟩, ?_⟩
    rintro _ m out t w5 ⟨j, rfl, rfl, hj, pre, own5, he, ext5⟩
    refine If.dec (fun hlt => ?_) (fun hge => ?_)
    · have hjl : j < L.length := by omega
      have hg := hu.get j
      rw [pages_step hjl] at he
      refine Ix.run (h.no ext5) (by omega) hlt fun _ _ _ c1 c2 => ⟨_, c1, _, c2, range_run fun rb w7 hrb ext7 hb7 => ?_⟩
      rw [Int.toNat_natCast] at hb7
      have own7 := own5.no ext7
      have hblk : ∀ i, out.blk = some i → i ≠ rb := fun i hi => by have := (own5.lt hi).2; omega
      refine ⟨_, Cell.lst hb7 rfl, ⟨fun m out1 p w' => 0 ≤ p ∧ p ≤ (gr L j).2 ∧ m = ((gr L j).2 - p).toNat ∧ w'.heap[rb]? = some (pairO (gr L j).1 (gr L j).2) ∧ ¬ out1.blk = some rb ∧ ∃ pre', OwnW w'.heap w.heap.size out1 pre' ∧ pre' ++ (rise p ((gr L j).2 - p).toNat ++ pagesR (L.drop (j + 1))) = pagesR L ∧ Ext No w w',
        ⟨_, by omega, by have := (pe_le hr hu hjl).2.2; omega, rfl, hb7, fun hx => hblk _ hx rfl, pre, own7, he, ext5.no ext7⟩, ?_⟩⟩
      rintro _ m' out1 p w8 ⟨hp0, hp1, rfl, hb8, hne8, pre', own8, he8, ext8⟩
      refine ⟨_, Cell.lst hb8 rfl, If.dec (fun hpl' => ?_) (fun hpl' => Ar.i64 (by omega) ⟨_, ?_, j + 1, by omega, rfl, by omega, pre', own8, ?_, ext8⟩)⟩
      · rw [rise_step hpl'] at he8
        refine app1 own8 ext8.size (by have := congrArg List.length he8; simp only [List.length_append, List.length_cons] at this; omega) fun s9 w9 own9 ext9 blk9 => Ar.u32 (by omega) ⟨_, ?_, by omega, by omega, rfl, ?_, ?_, pre' ++ [p], own9, by simpa using he8, ext8.trans ext9 fun i hi hb => by have := (own8.lt hb).1; omega⟩
        · omega
        · rw [ext9.blk rb (blt hb8) hne8]; exact hb8
        · intro hx
          rcases blk9 with h' | ⟨b', h', hge⟩
          · rw [hx] at h'; exact hne8 h'.symm
          · rw [hx] at h'; cases h'; have := blt hb8; omega
      · omega
      · rw [rise_done hpl', List.nil_append] at he8; exact he8
    · have hnil : L.drop j = [] := List.drop_of_length_le (by omega)
      rw [hnil, pagesR, List.append_nil] at he
      rw [he] at own5
      exact k2 hr hm0 hcm out w5 own5 ext5
theorem refPages_spec {l : Sl} {w : World} {K : Sl → World → Prop} {L : List Run} (h : RdR w.heap l L) (hu : U32 L) (hr : rightB L = true)
    (k : ∀ s w', OwnW w'.heap w.heap.size s (pagesR L) → Ext No w w' → K s w') : C_ref11_Pages l w K := by
  apply S_ref11_Pages
  have hl := h.len
  have hlen := right_len hr hu
  have hc := countI_range hr hu (by omega) (by omega)
  have hpl := pagesR_len hr
  refine ⟨fun m out t w' => ∃ j : Nat, t = j ∧ m = L.length - j ∧ j ≤ L.length ∧ ∃ pre, OwnW w'.heap w.heap.size out pre ∧ pre ++ pagesR (L.drop j) = pagesR L ∧ Ext No w w',
    ⟨_, 0, rfl, rfl, Nat.zero_le _, [], Own.nil _ _ _ _, rfl, Ext.refl _ _⟩, ?_⟩
  rintro _ m out t w5 ⟨j, rfl, rfl, hj, pre, own5, he, ext5⟩
  refine If.dec (fun hlt => ?_) (fun hge => ?_)
  · have hjl : j < L.length := by omega
    have hg := hu.get j
    rw [pages_step hjl] at he
    refine Ix.run (h.no ext5) (by omega) hlt fun _ _ _ c1 c2 => ⟨_, c1, ?_⟩
    rw [Int.toNat_natCast]
    refine ⟨fun m out1 p w' => 0 ≤ p ∧ p ≤ (gr L j).2 ∧ m = ((gr L j).2 - p).toNat ∧ ∃ pre', OwnW w'.heap w.heap.size out1 pre' ∧ pre' ++ (rise p ((gr L j).2 - p).toNat ++ pagesR (L.drop (j + 1))) = pagesR L ∧ Ext No w w',
      ⟨_, by omega, by have := (pe_le hr hu hjl).2.2; omega, rfl, pre, own5, he, ext5⟩, ?_⟩
    rintro _ m' out1 p w8 ⟨hp0, hp1, rfl, pre', own8, he8, ext8⟩
    refine Ix.run (h.no ext8) (by omega) hlt fun _ _ _ c1 c2 => ⟨_, c2, ?_⟩
    rw [Int.toNat_natCast]
    refine If.dec (fun hpl' => ?_) (fun hpl' => Ar.i64 (by omega) ⟨_, ?_, j + 1, by omega, rfl, by omega, pre', own8, ?_, ext8⟩)
    · rw [rise_step hpl'] at he8
      refine app1 own8 ext8.size (by have := congrArg List.length he8; simp only [List.length_append, List.length_cons] at this; omega) fun s9 w9 own9 ext9 blk9 => Ar.u32 (by omega) ⟨_, ?_, by omega, by omega, rfl, pre' ++ [p], own9, by simpa using he8, ext8.trans ext9 fun i hi hb => by have := (own8.lt hb).1; omega⟩
      omega
    · omega
    · rw [rise_done hpl', List.nil_append] at he8; exact he8
  · have hnil : L.drop j = [] := List.drop_of_length_le (by omega)
    rw [hnil, pagesR, List.append_nil] at he
    rw [he] at own5
    exact k out w5 own5 ext5
end Go.Proofs.Ytomlobgpeobnfaa
namespace Go.Proofs.Ytomlobgpeobnfaa
open Go.V Go.V.Rn Go.V.Pk
theorem runsPages_spec {l : Sl} {most : Int} {w : World} {L : List Run} (h : RdR w.heap l L) (hu : U32 L) (hn : L.length ≤ 9223372036854775807) (hm : most ≤ 9223372036854775807) : C_law11_RunsPages l most w (Tr w) := by
  apply S_law11_RunsPages
  refine refRight_spec h hu hn fun w1 ext1 => ⟨fun w' => Ext No w w', ?_, ?_⟩
  · refine If.cases (fun hr => If.dec (fun _ => ?_) (fun _ => ext1)) (fun _ => ext1)
    exact refCount_spec (h.no ext1) hu hn hr fun w2 ext2 => If.dec (fun _ => known_tr (ext1.no ext2)) (fun _ => ext1.no ext2)
  · intro _ w4 ext4
    refine pages_spec (h.no ext4) hu hn hm (fun hc w5 ext5 => ?_) (fun hr hm0 hgt w5 ext5 => ?_) (fun hr hm0 hle s5 w5 own5 ext5 => ?_)
    · refine ⟨fun _ => False, ⟨fun t w' => t = true ∧ Ext No w w', ?_, ?_⟩, fun _ _ h => h.elim⟩
      · refine If.not (If.cases (fun hr => ⟨?_, ext4.no ext5⟩) (fun _ => ⟨rfl, ext4.no ext5⟩))
        rcases hc with hc | hc
        · rw [hr] at hc; cases hc
        · simpa using hc
      · rintro _ t w6 ⟨rfl, ext6⟩
        exact If.yes (If.beq (fun _ => If.beq (fun _ => known_tr ext6) (fun h => by simp at h)) (fun h => by simp at h))
    · refine ⟨fun _ => False, ⟨fun t w' => t = false ∧ Ext No w w', ?_, ?_⟩, fun _ _ h => h.elim⟩
      · exact If.not (If.cases (fun _ => ⟨decide_eq_false (by omega), ext4.no ext5⟩) (fun h => by rw [hr] at h; cases h))
      · rintro _ t w6 ⟨rfl, ext6⟩
        exact If.no (refCount_spec (h.no ext6) hu hn hr fun w8 ext8 => Ar.u64 (by omega) (If.dec (fun _ => If.beq (fun _ => If.beq (fun _ => known_tr (ext6.no ext8)) (fun h => by simp at h)) (fun h => by simp at h)) (fun h => by omega)))
    · have ext5' := ext4.no ext5
      refine ⟨fun w' => Ext No w5 w', ⟨fun t w' => t = false ∧ Ext No w5 w', ?_, ?_⟩, ?_⟩
      · exact If.not (If.cases (fun _ => ⟨decide_eq_false (by omega), Ext.refl _ _⟩) (fun h => by rw [hr] at h; cases h))
      · rintro _ t w6 ⟨rfl, ext6⟩
        exact If.no (refCount_spec (h.no (ext5'.no ext6)) hu hn hr fun w8 ext8 => Ar.u64 (by omega) (If.dec (fun h => by omega) (fun _ => ext6.no ext8)))
      · intro _ w10 ext10
        refine refPages_spec (h.no (ext5'.no ext10)) hu hr fun s11 w11 own11 ext11 => ?_
        have l5 := OwnW.len own5
        have l11 := OwnW.len own11
        have hc := countI_range hr hu (by omega) (by omega)
        have hpl := pagesR_len hr
        refine ⟨fun w' => w' = w11, If.bne (fun h => by simp at h) (fun _ => If.bne (fun h => by omega) (fun _ => rfl)), ?_⟩
        rintro _ w12 rfl
        have x12 : Ext No w5 w12 := ext10.no ext11
        refine ⟨fun m t w' => ∃ j : Nat, t = j ∧ m = (pagesR L).length - j ∧ j ≤ (pagesR L).length ∧ Ext No w12 w', ⟨_, 0, rfl, rfl, Nat.zero_le _, Ext.refl _ _⟩, ?_⟩
        rintro _ m t w13 ⟨j, rfl, rfl, hj, ext13⟩
        refine If.dec (fun hlt => ?_) (fun _ => known_tr ((ext5'.no x12).no ext13))
        refine ⟨Ext No w13, (Ext.refl _ _).drew, Ix.int (own5.rd.no (x12.no ext13)) (by omega) hlt fun _ _ _ c1 => ⟨_, Held.cell c1, Ix.int (own11.rd.no ext13) (by omega) (by omega) fun _ _ _ c2 => ⟨_, Held.cell c2, If.bne (fun h => absurd rfl h) (fun _ => Ar.i64 (by omega) ⟨_, ?_, j + 1, by omega, rfl, by omega, ext13.drew⟩)⟩⟩⟩
        omega
end Go.Proofs.Ytomlobgpeobnfaa
