/- Layer 7: what the functions of package pack compute. -/
import Derived.Test.YtomlobgpeobnfaaFs
import Derived.Test.YtomlobgpeobnfaaTy
import Derived.Test.YtomlobgpeobnfaaPackPlain
namespace Go.Proofs.Ytomlobgpeobnfaa
open Go.V Go.V.Pk
abbrev OwnB (h : Array Obj) (base : Nat) (s : Sl) (l : List Int) : Prop := Own h base T_uint8 1 s (l.map (Value.int .u8))
abbrev RdB (h : Array Obj) (s : Sl) (l : List Int) : Prop := Rd h s 1 (l.map (Value.int .u8))
theorem OwnB.len {h : Array Obj} {base : Nat} {s : Sl} {l : List Int} (o : OwnB h base s l) : s.len = l.length := by have := Own.len o; simp at this; exact this.symm
theorem RdB.len {h : Array Obj} {s : Sl} {l : List Int} (o : RdB h s l) : s.len = l.length := by have := Rd.len o; simp at this; exact this.symm
theorem two7 : (2 : Int) ^ min (Int.toNat 7) (IntKind.bits .u64) = 128 := by decide
theorem num_spec {n : Int} {w : World} {K : Sl → World → Prop} (h0 : 0 ≤ n) (h1 : n ≤ 18446744073709551615)
    (hk : ∀ s w', OwnB w'.heap w.heap.size s (numB n.toNat) → Ext No w w' → K s w') : C_pack_Num n w K := by
  apply S_pack_Num
  have h10 := numB_len10 (n := n.toNat) (by omega)
  refine ⟨fun m x s w' => m = x.toNat ∧ 0 ≤ x ∧ x ≤ 18446744073709551615 ∧ ∃ pre, OwnB w'.heap w.heap.size s pre ∧ pre ++ numB x.toNat = numB n.toNat ∧ Ext No w w',
    ⟨_, rfl, h0, h1, [], Own.nil _ _ _ _, rfl, Ext.refl _ _⟩, ?_⟩
  rintro _ m x s w1 ⟨rfl, hx0, hx1, pre, own, hpre, ext⟩
  have hs := own.len
  have hl : pre.length ≤ 10 := by rw [← hpre, List.length_append] at h10; omega
  have fin : ∀ b w2 w3 (y : Int), New w1 (.cells [.int .u8 y].toArray 5) b w2 → Ext (fun i => s.blk = some i) w2 w3 → Ext No w w3 := fun b w2 w3 y new e =>
    (ext.no new.ext).trans e fun i hi hb => by have := (own.lt hb).1; omega
  refine If.dec (fun hgt => ?_) (fun hle => ?_)
  · refine Ar.u8m (Nm.as (bitI_or128 (by omega)) fun b w2 new => ?_)
    refine app_uint8 (own.no new.ext) (by have := new.ext.size; have := ext.size; omega) ((Own.new (sz := 1) (n := 1) new rfl (by simp [oneC])).rd.src) (by simp at hs ⊢; omega) fun s' w3 own' _ ext' _ => ?_
    refine ⟨by decide, Nm.as (e' := x / 128) (by rw [fdiv_pow, two7]) ⟨_, ?_, rfl, by omega, by omega, pre ++ [x % 256 % 128 + 128], by simpa [OwnB] using own', ?_, fin _ _ _ _ new ext'⟩⟩
    · omega
    · rw [← hpre, numB_ge (n := x.toNat) (by omega)]
      simp only [List.append_assoc, List.singleton_append]
      congr 2
      · omega
      · congr 1; omega
  · refine Ar.u8 (by omega) fun b w2 new => ?_
    refine app_uint8 (own.no new.ext) (by have := new.ext.size; have := ext.size; omega) ((Own.new (sz := 1) (n := 1) new rfl (by simp [oneC])).rd.src) (by simp at hs ⊢; omega) fun s' w3 own' _ ext' _ => ?_
    refine hk s' w3 ?_ (fin _ _ _ _ new ext')
    rw [← hpre, numB_lt (by omega)]
    simpa [OwnB, Int.toNat_of_nonneg hx0] using own'
theorem refNum_spec : ∀ (m : Nat) {n : Int} {w : World} {K : Sl → World → Prop} (_ : n.toNat ≤ m) (_ : 0 ≤ n) (_ : n ≤ 18446744073709551615)
    (_ : ∀ s w', OwnB w'.heap w.heap.size s (numB n.toNat) → Ext No w w' → K s w'), C_ref07_Num n w K := by
  intro m
  induction m using Nat.strongRecOn with
  | _ m ih =>
    intro n w K hm h0 h1 hk
    apply S_ref07_Num
    refine If.dec (fun hlt => ?_) (fun hge => ?_)
    · refine Ar.u8 (by omega) fun b w1 new => hk _ _ ?_ new.ext
      rw [numB_lt (by omega)]
      have := Own.new (sz := 1) (n := 1) new rfl (by simp [oneC])
      simpa [OwnB, Int.toNat_of_nonneg h0] using this
    · refine ⟨by decide, Nm.as (e' := n % 128) (Int.tmod_eq_emod_of_nonneg h0) (Ar.u8 (by omega) (Ar.u8 (by omega) fun b w2 new => ⟨by decide, ?_⟩))⟩
      rw [Int.tdiv_eq_ediv_of_nonneg h0]
      refine Ar.u64 (by omega) (ih (n.toNat / 128) (by omega) (n := n / 128) (by omega) (by omega) (by omega) fun s w3 own ext => ?_)
      have own0 := Own.new (sz := 1) (n := 1) new rfl (by simp [oneC])
      have hs := own.len
      have h10 := numB_len10 (n := (n / 128).toNat) (by omega)
      have := new.ext.size
      have := ext.size
      refine app_uint8 (own0.no ext) (by omega) own.rd.src (by simp at hs ⊢; omega) fun s' w4 own' _ ext' _ => hk _ _ ?_ ((new.ext.no ext).trans ext' fun i hi hb => ?_)
      · rw [numB_ge (n := n.toNat) (by omega)]
        have e1 : ((n.toNat % 128 + 128 : Nat) : Int) = n % 128 + 128 := by omega
        have e2 : n.toNat / 128 = (n / 128).toNat := by omega
        rw [e1, e2]
        simpa [OwnB] using own'
      · have := (own0.lt hb).1; omega
theorem same_spec {a b : Sl} {w : World} {K : Bool → World → Prop} {l m : List Int} (ha : RdB w.heap a l) (hb : RdB w.heap b m) (hl : B8 l) (hm : B8 m) (k : K (decide (l = m)) w) : C_ref01_Same a b w K := by
  apply S_ref01_Same
  refine StrC.mk ha (fun b o v h => Cell.mk h) (StrC.mk hb (fun b o v h => Cell.mk h) ?_)
  rw [toList_mk, toList_mk]
  have : (toB l == toB m) = decide (l = m) := by
    rw [Bool.eq_iff_iff]; simp [toB_inj hl hm]
  rw [this]; exact k
/-- A reader: its block, its slice, its bytes, its place, its fault. -/
structure Rdr (h : Array Obj) (rb : Nat) (s : Sl) (l : List Int) (at_ : Nat) (f : Int) : Prop where
  blk : ∃ T, h[rb]? = some (.cells [s.v, .int .i64 at_, .int .i64 f].toArray T (0, 0))
  rd : RdB h s l
  ne : s.blk ≠ some rb
  rng : B8 l
  le : at_ ≤ l.length
  len : l.length ≤ 4611686018427387904
theorem Rdr.ext {S : Nat → Prop} {w w' : World} {rb : Nat} {s : Sl} {l : List Int} {at_ : Nat} {f : Int} (r : Rdr w.heap rb s l at_ f) (e : Ext S w w') (h1 : ¬ S rb) (h2 : ∀ b, s.blk = some b → ¬ S b) : Rdr w'.heap rb s l at_ f := by
  obtain ⟨T, hT⟩ := r.blk
  obtain ⟨hlt, _⟩ := Array.getElem?_eq_some_iff.1 hT
  exact ⟨⟨T, by rw [e.blk rb hlt h1]; exact hT⟩, r.rd.ext e (fun a b ha hb => h2 b (by simp [Sl.blk, ha, hb])), r.ne, r.rng, r.le, r.len⟩
theorem Rdr.no {w w' : World} {rb : Nat} {s : Sl} {l : List Int} {at_ : Nat} {f : Int} (r : Rdr w.heap rb s l at_ f) (e : Ext No w w') : Rdr w'.heap rb s l at_ f := r.ext e id fun _ _ => id
theorem Rdr.set {w w' : World} {rb : Nat} {s : Sl} {l : List Int} {at_ at' : Nat} {f f' : Int} {T : TypeId} (r : Rdr w.heap rb s l at_ f) (hw : Wrt w rb (.cells [s.v, .int .i64 at', .int .i64 f'].toArray T (0, 0)) w') (hle : at' ≤ l.length) :
    Rdr w'.heap rb s l at' f' := by
  obtain ⟨T', hT⟩ := r.blk
  refine ⟨⟨T, hw.get hT⟩, r.rd.ext hw.ext (fun a b ha hb e => r.ne (by simp [Sl.blk, ha, hb, e])), r.ne, r.rng, hle, r.len⟩
theorem ok_spec {w : World} {rb : Nat} {s : Sl} {l : List Int} {at_ : Nat} {f : Int} {K : Bool → World → Prop} (r : Rdr w.heap rb s l at_ f) (k : K (f == 0) w) : C_pack_Reader_ok (some ⟨rb, 0, none⟩) w K := by
  apply S_pack_Reader_ok
  obtain ⟨T, hT⟩ := r.blk
  exact If.yes (Nn.mk ⟨_, Cell.lst hT rfl, k⟩)
theorem tk_cons (i : Nat) (n x : Int) (l : List Int) : tk i n (x :: l) =
    if i = 9 ∧ x > 1 then (0, 0, 6) else if x ≥ 128 then tk (i + 1) (n + (x % 128) * 128 ^ i) l else if x = 0 ∧ 0 < i then (0, 0, 5) else (n + (x % 128) * 128 ^ i, i + 1, 0) := rfl
theorem pow128 (i : Nat) : (128 : Int) ^ i = 2 ^ (7 * i) := by
  rw [Int.pow_mul]; rfl
theorem pow2_le {a b : Nat} (h : a ≤ b) : (2 : Int) ^ a ≤ 2 ^ b := by exact_mod_cast Nat.pow_le_pow_right (by decide) h
theorem number_spec {w : World} {rb : Nat} {s : Sl} {l : List Int} {at0 : Nat} {f : Int} {at_ : Nat} {K : Int → Int → Int → World → Prop} (r : Rdr w.heap rb s l at0 f) (hat : at_ ≤ l.length)
    (k : K (tk 0 0 (l.drop at_)).1 (if (tk 0 0 (l.drop at_)).2.2 = 0 then ((at_ + (tk 0 0 (l.drop at_)).2.1 : Nat) : Int) else 0) (tk 0 0 (l.drop at_)).2.2 w) : C_pack_Reader_number (some ⟨rb, 0, none⟩) at_ w K := by
  apply S_pack_Reader_number
  obtain ⟨T, hT⟩ := r.blk
  have hs := r.rd.len
  have hlen := r.len
  refine ⟨fun m n i w' => w' = w ∧ ∃ j : Nat, i = j ∧ m = 10 - j ∧ j ≤ 9 ∧ at_ + j ≤ l.length ∧ 0 ≤ n ∧ n < 2 ^ (7 * j) ∧ tk 0 0 (l.drop at_) = tk j n (l.drop (at_ + j)),
    ⟨_, rfl, 0, rfl, rfl, by omega, by omega, by omega, by decide, rfl⟩, ?_⟩
  rintro _ m n i w1 ⟨rfl, j, rfl, rfl, hj, hle, hn0, hn1, ht⟩
  refine Ar.i64 (by omega) (Nn.mk ⟨_, Cell.lst hT rfl, If.dec (fun hge => ?_) (fun hlt => ?_)⟩)
  · have : l.drop (at_ + j) = [] := List.drop_of_length_le (by omega)
    rw [this] at ht
    simp only [ht, tk] at k
    exact k
  · refine Nn.mk ⟨_, Cell.lst hT rfl, Ar.i64 (by omega) (Ix.int r.rd (by omega) (by omega) fun _ _ _ ha => ⟨_, ha, ?_⟩)⟩
    have hx := r.rng.get (((at_ : Int) + j).toNat)
    have hdrop : l.drop (at_ + j) = l.getD ((at_ : Int) + j).toNat 0 :: l.drop (at_ + (j + 1)) := by
      have e : ((at_ : Int) + j).toNat = at_ + j := by omega
      rw [e, List.drop_eq_getElem_cons (by omega)]
      simp [List.getD, List.getElem?_eq_getElem (show at_ + j < l.length by omega), Nat.add_assoc]
    generalize l.getD ((at_ : Int) + j).toNat 0 = x at *
    rw [hdrop, tk_cons] at ht
    have h9 : j = 9 → ¬ x > 1 → x = 0 ∨ x = 1 := by omega
    refine ⟨fun w2 => w2 = w1 ∧ ¬ (j = 9 ∧ x > 1), ?_, ?_⟩
    · refine If.beq (fun h => If.dec (fun h1 => ?_) (fun h1 => ⟨rfl, fun h2 => h1 h2.2⟩)) (fun h => ⟨rfl, fun h2 => h (by omega)⟩)
      rw [if_pos ⟨by omega, h1⟩] at ht
      simp only [ht] at k
      exact k
    · rintro _ w2 ⟨rfl, hno⟩
      rw [if_neg hno] at ht
      have hp : (2 : Int) ^ (7 * j) ≤ 9223372036854775808 := by
        have : 7 * j ≤ 63 := by omega
        have h1 := pow2_le this
        have e : (2 : Int) ^ 63 = 9223372036854775808 := by decide
        omega
      have hpp : (0 : Int) < 2 ^ (7 * j) := Int.pow_pos (by omega)
      refine Nm.as (bitI_and127 hx) (Ar.u64 (by omega) (Ar.i64 (by omega) ⟨by omega, ?_⟩))
      have emin : min (Int.toNat (7 * (j : Int))) (IntKind.bits .u64) = 7 * j := by
        simp only [IntKind.bits]; omega
      rw [emin]
      have hbig : x % 128 * 2 ^ (7 * j) + n ≤ 18446744073709551615 := by
        by_cases h : j = 9
        · subst h
          have : x % 128 ≤ 1 := by omega
          have : x % 128 * 2 ^ (7 * 9) ≤ 1 * 2 ^ (7 * 9) := Int.mul_le_mul_of_nonneg_right this (by decide)
          have e : (2 : Int) ^ (7 * 9) = 9223372036854775808 := by decide
          omega
        · have : 7 * j ≤ 56 := by omega
          have h1 : (2 : Int) ^ (7 * j) ≤ 2 ^ 56 := pow2_le this
          have e : (2 : Int) ^ 56 = 72057594037927936 := by decide
          have : x % 128 * 2 ^ (7 * j) ≤ 127 * 2 ^ (7 * j) := Int.mul_le_mul_of_nonneg_right (by omega) (by omega)
          omega
      have hnn : 0 ≤ x % 128 * 2 ^ (7 * j) := Int.mul_nonneg (by omega) (by omega)
      refine Ar.u64 (by omega) (Nm.as (bitI_or_add ⟨hn0, hn1⟩ (by omega) (by omega)) (If.dec (fun h1 => ?_) (fun h1 => ?_)))
      · rw [if_pos (by omega), pow128] at ht
        have hj9 : j ≠ 9 := by omega
        refine Ar.i64 (by omega) ⟨_, ?_, rfl, j + 1, by omega, rfl, by omega, ?_, by omega, ?_, ht⟩
        · omega
        · have : l.length ≤ at_ + j ∨ at_ + j < l.length := by omega
          omega
        · have : x % 128 * 2 ^ (7 * j) ≤ 127 * 2 ^ (7 * j) := Int.mul_le_mul_of_nonneg_right (by omega) (by omega)
          have e : (2 : Int) ^ (7 * (j + 1)) = 128 * 2 ^ (7 * j) := by
            rw [Nat.mul_add, Int.pow_add, Int.mul_comm]; rfl
          omega
      · rw [if_neg (by omega), pow128] at ht
        refine ⟨fun w3 => w3 = w2 ∧ ¬ (x = 0 ∧ 0 < j), ?_, ?_⟩
        · refine If.beq (fun h => If.dec (fun h2 => ?_) (fun h2 => ⟨rfl, fun h3 => h2 (by omega)⟩)) (fun h => ⟨rfl, fun h2 => h h2.1⟩)
          rw [if_pos ⟨h, by omega⟩] at ht
          simp only [ht] at k
          exact k
        · rintro _ w3 ⟨rfl, hno2⟩
          rw [if_neg hno2] at ht
          refine Ar.i64 (by omega) (Ar.i64 (by omega) ?_)
          simp only [ht, if_true] at k
          have e : ((at_ + (j + 1) : Nat) : Int) = (at_ : Int) + j + 1 := by omega
          rw [e] at k
          exact k
end Go.Proofs.Ytomlobgpeobnfaa
