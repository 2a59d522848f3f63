/- Layer 7: PackBack's walk. -/
import Derived.Test.YtbkhcmldclgkoaaPackG
namespace Go.Proofs.Ytbkhcmldclgkoaa
open Go.V Go.V.Pk
def endsL (q : List Thing) (j : Nat) : List Int := (List.range j).map fun i => ((encs (q.take (i + 1))).length : Int)
theorem endsL_succ (q : List Thing) (j : Nat) : endsL q (j + 1) = endsL q j ++ [((encs (q.take (j + 1))).length : Int)] := by simp [endsL, List.range_succ]
theorem encs_take_succ {q : List Thing} {j : Nat} {x : Thing} (h : q[j]? = some x) : encs (q.take (j + 1)) = encs (q.take j) ++ x.e := by
  obtain ⟨hj, rfl⟩ := List.getElem?_eq_some_iff.1 h
  rw [List.take_succ_eq_append_getElem hj, encs_append]; simp [encs]
theorem encs_len {h : Array Obj} {q : List Thing} (hq : ∀ x ∈ q, x.ok h ∧ x.t.length ≤ 200) : (encs q).length ≤ q.length * 210 := by
  induction q with
  | nil => simp [encs]
  | cons x r ih =>
    have h1 := ih fun y hy => hq y (by simp [hy])
    have h2 := thing_e_len (hq x (by simp)).1 (hq x (by simp)).2
    simp only [encs, List.flatMap_cons, List.length_append, List.length_cons] at h1 ⊢
    omega
theorem packBack_spec {l : Sl} {cut : Int} {w : World} {q : List Thing} (hl : Rd w.heap l 3 (q.flatMap Thing.c)) (hq : ∀ x ∈ q, x.ok w.heap) (hc : cut ≤ 9223372036854775807) : C_law07_PackBack l cut w fun r w' => r = true ∧ Ext No w w' := by
  apply S_law07_PackBack
  have hlq : q.length = l.len := by have := hl.len; rw [thing_len] at this; omega
  refine If.dec (fun _ => known_spec fun w' ext => ⟨rfl, ext⟩) (fun hle => ?_)
  refine ⟨fun m b ends t w' => ∃ j : Nat, t = j ∧ m = l.len - j ∧ j ≤ l.len ∧ OwnB w'.heap w.heap.size b (encs (q.take j)) ∧ Own w'.heap w.heap.size T_int 1 ends ((endsL q j).map (Value.int .i64)) ∧ (∀ x ∈ q.take j, x.t.length ≤ 200) ∧ Ext No w w' ∧
    ∀ i, b.blk = some i → ends.blk ≠ some i, ⟨_, 0, rfl, rfl, Nat.zero_le _, Own.nil _ _ _ _, Own.nil _ _ _ _, by simp, Ext.refl _ _, by simp [Sl.blk]⟩, ?_⟩
  rintro _ m b ends t w2 ⟨j, rfl, rfl, hj, ob, oe, hsmall, ext, hdis⟩
  have hq2 := hl.no ext
  have hsz := ext.size
  have hblen := ob.len
  have hbl : (encs (q.take j)).length ≤ j * 210 := by
    have := encs_len (h := w.heap) (q := q.take j) fun x hx => ⟨hq x (List.mem_of_mem_take hx), hsmall x hx⟩
    rw [List.length_take] at this
    have h2 : min j q.length = j := by omega
    rw [h2] at this; exact this
  refine If.dec (fun hlt => ?_) (fun hge => ?_)
  · have step : ∀ {x : Thing} {r : Sl} {wa : World} {K' : Sl → World → Prop}, q[j]? = some x → x.t.length ≤ 200 → OwnB wa.heap w2.heap.size r x.e → Ext No w2 wa →
        (∀ s w5, OwnB w5.heap w.heap.size s (encs (q.take (j + 1))) → Own w5.heap w.heap.size T_int 1 ends ((endsL q j).map (Value.int .i64)) → Ext No w w5 → (∀ i, s.blk = some i → ends.blk ≠ some i) → s.len = (encs (q.take (j + 1))).length → K' s w5) →
        AppW Try.prog 24 24 b (.slice r.a r.len r.cap) K' wa := fun {x r wa K'} hx ht orr exta hk => by
      have hsza := exta.size
      have hrl := orr.len
      have hel := thing_e_len (hq x (List.mem_of_getElem? hx)) ht
      have oba := ob.no exta
      refine app_uint8 oba (by omega) orr.rd.src (by omega) fun s w5 own5 hsl ext5 hblk => ?_
      have hs5 : OwnB w5.heap w.heap.size s (encs (q.take (j + 1))) := by
        rw [encs_take_succ hx]; simpa [OwnB] using own5
      refine hk s w5 hs5 ((oe.no exta).ext ext5 fun i hi e => hdis i e hi) ((ext.no exta).trans ext5 fun i hi e => by have := (ob.lt e).1; omega) (fun i hi e => ?_) hs5.len
      rcases hblk with h | ⟨i', h, h'⟩
      · rw [h] at hi; exact hdis i hi e
      · rw [h] at hi; cases hi
        have := (oe.lt e).2
        omega
    have fin : ∀ {x : Thing} {s : Sl} {w5 : World} {b1 : Nat} {w6 : World} {K' : Sl → World → Prop}, q[j]? = some x → x.t.length ≤ 200 → OwnB w5.heap w.heap.size s (encs (q.take (j + 1))) → Own w5.heap w.heap.size T_int 1 ends ((endsL q j).map (Value.int .i64)) → Ext No w w5 →
        (∀ i, s.blk = some i → ends.blk ≠ some i) → s.len = (encs (q.take (j + 1))).length → New w5 (.cells [.int .i64 (s.len : Int)].toArray 3) b1 w6 →
        (∀ e' w7, OwnB w7.heap w.heap.size s (encs (q.take (j + 1))) → Own w7.heap w.heap.size T_int 1 e' ((endsL q (j + 1)).map (Value.int .i64)) → (∀ y ∈ q.take (j + 1), y.t.length ≤ 200) → Ext No w w7 → (∀ i, s.blk = some i → e'.blk ≠ some i) → K' e' w7) →
        AppW Try.prog 31 31 ends (.slice (some (Addr.mk b1 0 none)) 1 1) K' w6 := fun {x s w5 b1 w6 K'} hx ht os5 oe5 ext5 hd5 hsl new hk => by
      have hsz6 := new.ext.size
      have hsz5 := ext5.size
      have hel := oe5.len
      simp only [endsL, List.length_map, List.length_range] at hel
      refine app_int (oe5.no new.ext) (by omega) ((Own.new (sz := 1) (n := 1) new rfl (by simp [oneC])).rd.src) (by show (ends.len + 1) * 8 ≤ _; omega) fun e' w7 own7 _ ext7 hblk => ?_
      refine hk e' w7 ((os5.no new.ext).ext ext7 fun i hi e => hd5 i hi e) ?_ (fun y hy => ?_) ((ext5.no new.ext).trans ext7 fun i hi e => by have := (oe.lt e).1; omega) fun i hi e => ?_
      · rw [endsL_succ, ← hsl]; simpa using own7
      · obtain ⟨hj', rfl⟩ := List.getElem?_eq_some_iff.1 hx
        rw [List.take_succ_eq_append_getElem hj'] at hy
        rcases List.mem_append.1 hy with hy | hy
        · exact hsmall y hy
        · simp at hy; rw [hy]; exact ht
      · rcases hblk with h | ⟨i', h, h'⟩
        · rw [h] at e; exact hd5 i hi e
        · rw [h] at e; cases e
          have := (os5.lt hi).2
          omega
    refine Ix.thing hq2 (by omega) (by omega) fun _ _ x hx _ _ hc3 => ⟨_, hc3, ?_⟩
    have ej : (j : Int).toNat = j := by omega
    rw [ej] at hx
    have hxok := hq x (List.mem_of_getElem? hx)
    have hxl : x.s.len = x.t.length := hxok.2.2.1.len
    refine If.dec (fun _ => known_spec fun w' e' => ⟨rfl, ext.no e'⟩) (fun h200 => ?_)
    have ht : x.t.length ≤ 200 := by omega
    refine Ix.thing hq2 (by omega) (by omega) fun _ _ x' hx' _ hc2 _ => ⟨_, hc2, ?_⟩
    rw [ej] at hx'
    obtain rfl : x = x' := by rw [hx] at hx'; exact Option.some.inj hx'
    refine If.cases (fun his => ?_) (fun his => ?_)
    · refine Ix.thing hq2 (by omega) (by omega) fun _ _ x' hx' _ _ hc3 => ⟨_, hc3, ?_⟩
      rw [ej] at hx'
      obtain rfl : x = x' := by rw [hx] at hx'; exact Option.some.inj hx'
      refine text_spec (hxok.2.2.1.no ext) (by omega) fun r w4 orr ext4 => step hx ht (by simpa [Thing.e, his] using orr) ext4 fun s w5 os5 oe5 ext5 hd5 hsl => fun b1 w6 new => fin hx ht os5 oe5 ext5 hd5 hsl new fun e' w7 os7 oe7 hs7 ext7 hd7 => ?_
      exact Ar.i64 (by omega) ⟨_, by omega, j + 1, by omega, rfl, by omega, os7, oe7, hs7, ext7, hd7⟩
    · refine Ix.thing hq2 (by omega) (by omega) fun _ _ x' hx' hc1 _ _ => ⟨_, hc1, ?_⟩
      rw [ej] at hx'
      obtain rfl : x = x' := by rw [hx] at hx'; exact Option.some.inj hx'
      refine num_spec hxok.1 hxok.2.1 fun r w4 orr ext4 => step hx ht (by simpa [Thing.e, his] using orr) ext4 fun s w5 os5 oe5 ext5 hd5 hsl => fun b1 w6 new => fin hx ht os5 oe5 ext5 hd5 hsl new fun e' w7 os7 oe7 hs7 ext7 hd7 => ?_
      exact Ar.i64 (by omega) ⟨_, by omega, j + 1, by omega, rfl, by omega, os7, oe7, hs7, ext7, hd7⟩
  · have hjq : j = q.length := by omega
    subst hjq
    rw [List.take_length] at ob hsmall hblen hbl
    have hb8 := encs_b8 hq
    have hcapb := ob.rd.cap
    refine ⟨fun n w' => w' = w2 ∧ 0 ≤ n ∧ n ≤ b.len, ?_, ?_⟩
    · refine If.dec (fun hpos => Ar.i64 (by omega) ⟨by omega, Nm.as (Int.tmod_eq_emod_of_nonneg (by omega)) ⟨rfl, ?_, ?_⟩⟩) (fun _ => ⟨rfl, by omega, by omega⟩)
      · exact Int.emod_nonneg _ (by omega)
      · have := Int.emod_lt_of_pos cut (show (0 : Int) < (b.len : Int) + 1 by omega); omega
    · rintro _ n w12 ⟨rfl, hn0, hn1⟩
      obtain ⟨n, rfl⟩ := Int.eq_ofNat_of_zero_le hn0
      refine ⟨Ext No w12, (Ext.refl _ _).drew, Cut.mk (by omega) (by omega) (by omega) (by omega) ?_⟩
      have hcut := ob.rd.cut (lo := 0) (hi := n) (mx := b.cap) (Nat.zero_le _) (by omega) (by omega)
      simp only [List.drop_zero, Nat.sub_zero, Nat.mul_one, ← List.map_take] at hcut
      simp only [Int.toNat_zero, Int.toNat_natCast, Int.sub_zero]
      refine newReader_spec (w := drewW w12) ob.rd hb8 (by omega) fun rb s1 w13 r hrb hsb ext13 => ⟨(Ext.refl _ _).drew.no ext13, ?_⟩
      have e13 : Ext No w12 w13 := (Ext.refl No w12).drew.no ext13
      refine newReader_spec (l := (encs q).take n) (hcut.no e13) (hb8.take _) (by rw [List.length_take]; omega) fun rb2 s2 w14 r2 hrb2 hsb2 ext14 => ⟨e13.no ext14, fun w' => w' = w14, rfl, ?_⟩
      rintro _ w15 rfl
      have hrb' : w12.heap.size ≤ rb := hrb
      have rblt : rb < w13.heap.size := by obtain ⟨T, hT⟩ := r.blk; exact (Array.getElem?_eq_some_iff.1 hT).1
      have e14 : Ext No w12 w15 := e13.no ext14
      have oe15 := oe.no e14
      have sz13 := e13.size
      have sz15 := ext14.size
      refine ⟨fun m t w' => ∃ j : Nat, t = j ∧ m = l.len - j ∧ j ≤ l.len ∧ Ext (fun i => i = rb ∨ i = rb2) w15 w' ∧ Rdr w'.heap rb s1 (encs q) (encs (q.take j)).length 0 ∧
        ∃ a' f', Rdr w'.heap rb2 s2 ((encs q).take n) a' f' ∧ ((encs (q.take j)).length ≤ n → a' = (encs (q.take j)).length ∧ f' = 0) ∧ (n < (encs (q.take j)).length → f' = 4),
        ⟨_, 0, rfl, rfl, Nat.zero_le _, Ext.refl _ _, r.no ext14, 0, 0, r2, fun _ => ⟨rfl, rfl⟩, fun h => by simp [encs] at h⟩, ?_⟩
      rintro _ m t w16 ⟨j, rfl, rfl, hj, ext16, r16, a', f', rr16, hwh, hnw⟩
      have old16 : Ext No w w16 := (ext.no e14).trans ext16 fun i hi e => by rcases e with e | e <;> omega
      have oe16 : Own w16.heap w.heap.size T_int 1 ends ((endsL q q.length).map (Value.int .i64)) := oe15.ext ext16 fun i hi e => by
        have := (oe.lt hi).2; rcases e with e | e <;> omega
      have hq16 := hl.no old16
      have hel := oe.len
      simp only [endsL, List.length_map, List.length_range, Nat.mul_one] at hel
      have hrbne : rb ≠ rb2 := by omega
      have one : ∀ {wa wb : World} {a2 : Nat} {f2 : Int}, Ext (· = rb) wa wb → Rdr wa.heap rb2 s2 ((encs q).take n) a2 f2 → Rdr wb.heap rb2 s2 ((encs q).take n) a2 f2 := fun e rx => rx.ext e (fun e' => hrbne e'.symm) fun i hi e' => by
        have h1 := (hsb2 i hi).1; have e'' : i = rb := e'; omega
      have two : ∀ {wa wb : World} {a2 : Nat} {f2 : Int}, Ext (· = rb2) wa wb → Rdr wa.heap rb s1 (encs q) a2 f2 → Rdr wb.heap rb s1 (encs q) a2 f2 := fun e rx => rx.ext e (fun e' => hrbne e') fun i hi e' => by
        have h1 := (hsb i hi).2; have e'' : i = rb2 := e'; omega
      refine If.dec (fun hlt => ?_) (fun hge => ?_)
      · refine Ix.int oe16.rd (by omega) (by omega) fun _ _ _ ha => ⟨_, ha, ?_⟩
        have ej : (j : Int).toNat = j := by omega
        have hjq : j < q.length := by omega
        have eend : (endsL q q.length).getD (j : Int).toNat 0 = ((encs (q.take (j + 1))).length : Int) := by
          rw [ej]; simp [endsL, List.getD, hjq]
        rw [eend]
        obtain ⟨x, hx⟩ : ∃ x, q[j]? = some x := ⟨_, List.getElem?_eq_getElem hjq⟩
        have hxm := List.mem_of_getElem? hx
        have hxok := hq x hxm
        have ht := hsmall x hxm
        have hxl : x.s.len = x.t.length := hxok.2.2.1.len
        have hsucc := encs_take_succ hx
        have hlen2 : (encs (q.take (j + 1))).length = (encs (q.take j)).length + x.e.length := by rw [hsucc, List.length_append]
        have hdrop : (encs q).drop (encs (q.take j)).length = x.e ++ encs (q.drop (j + 1)) := by
          have : encs q = encs (q.take (j + 1)) ++ encs (q.drop (j + 1)) := by rw [← encs_append, List.take_append_drop]
          rw [this, hsucc, List.append_assoc, List.drop_left]
        have hra := r16.le
        obtain ⟨w1, w1'⟩ := read_whole hxok ht hdrop hra
        have hal : (encs (q.take (j + 1))).length ≤ (encs q).length := by
          have := congrArg List.length hdrop
          rw [List.length_drop, List.length_append] at this
          have hpos := (thing_e_len hxok ht).1
          omega
        -- the cut reader
        have hcutr : ((encs (q.take (j + 1))).length ≤ n → (x.is = true → rText 200 ((encs q).take n) a' f' = (x.t, (encs (q.take (j + 1))).length, 0)) ∧ (x.is = false → rNum ((encs q).take n) a' f' = (x.n, (encs (q.take (j + 1))).length, 0))) ∧
            (n < (encs (q.take (j + 1))).length → (x.is = true → (rText 200 ((encs q).take n) a' f').2.2 = 4) ∧ (x.is = false → (rNum ((encs q).take n) a' f').2.2 = 4)) := by
          constructor
          · intro h
            obtain ⟨rfl, rfl⟩ := hwh (by omega)
            have hd2 : ((encs q).take n).drop (encs (q.take j)).length = x.e ++ (encs (q.drop (j + 1))).take (n - (encs (q.take (j + 1))).length) := by
              rw [List.drop_take, hdrop, List.take_append]
              rw [List.take_of_length_le (by omega)]
              congr 2; omega
            have := read_whole hxok ht hd2 (by rw [List.length_take]; omega)
            rw [hlen2]; exact this
          · intro h
            by_cases h2 : (encs (q.take j)).length ≤ n
            · obtain ⟨rfl, rfl⟩ := hwh h2
              have hd2 : ((encs q).take n).drop (encs (q.take j)).length = x.e.take (n - (encs (q.take j)).length) := by
                rw [List.drop_take, hdrop, List.take_append_of_le_length (by omega)]
              exact read_cut hxok ht hd2 (by omega) (by rw [List.length_take]; omega)
            · have hf4 := hnw (by omega)
              subst hf4
              exact ⟨fun _ => by simp [rText], fun _ => by simp [rNum]⟩
        refine ⟨fun w' => Ext (fun i => i = rb ∨ i = rb2) w15 w' ∧ Rdr w'.heap rb s1 (encs q) (encs (q.take (j + 1))).length 0 ∧
          ∃ a' f', Rdr w'.heap rb2 s2 ((encs q).take n) a' f' ∧ ((encs (q.take (j + 1))).length ≤ n → a' = (encs (q.take (j + 1))).length ∧ f' = 0) ∧ (n < (encs (q.take (j + 1))).length → f' = 4), ?_, ?_⟩
        · refine Ix.thing hq16 (by omega) (by omega) fun _ _ x' hx' _ hc2 _ => ⟨_, hc2, ?_⟩
          rw [ej] at hx'
          obtain rfl : x = x' := by rw [hx] at hx'; exact Option.some.inj hx'
          refine If.cases (fun his => ?_) (fun his => ?_)
          · refine readerText_spec (by decide) r16 (by omega) fun t1 w17 r17 e17 o17 => readerText_spec (by decide) (one e17 rr16) (by rw [List.length_take]; omega) fun t2 w18 r18 e18 o18 => ?_
            rw [w1 his] at r17 o17
            have e1718 : Ext (fun i => i = rb ∨ i = rb2) w16 w18 := (e17.mono fun i _ h => .inl h).trans e18 fun i _ h => .inr h
            have old18 : Ext No w w18 := old16.trans e1718 fun i hi e => by rcases e with e | e <;> omega
            have sz17 := e17.size
            have sz16 := ext16.size
            have o17' : OwnB w18.heap w16.heap.size t1 x.t := o17.ext e18 fun i hi e => by
              have := (o17.lt hi).1; have e' : i = rb2 := e
              have hlt2 : rb2 < w15.heap.size := by obtain ⟨T, hT⟩ := r2.blk; exact (Array.getElem?_eq_some_iff.1 hT).1
              omega
            have hJ : Ext (fun i => i = rb ∨ i = rb2) w15 w18 := ext16.trans e1718 fun i _ h => h
            have rJ : Rdr w18.heap rb s1 (encs q) (encs (q.take (j + 1))).length 0 := by rw [hlen2]; exact two e18 r17
            refine ⟨Ext No w18, (Ext.refl _ _).drew, StrC.mk o17'.rd (fun b o v h => Held.no h) (Ix.thing (hl.no old18) (by omega) (by omega) fun _ _ x' hx' _ _ hc3 => ⟨_, Held.cell hc3, ?_⟩)⟩
            rw [ej] at hx'
            obtain rfl : x = x' := by rw [hx] at hx'; exact Option.some.inj hx'
            refine StrC.mk (hxok.2.2.1.no old18) (fun b o v h => Held.no h) ?_
            rw [toList_mk]
            refine If.not (If.cases (fun _ => If.dec (fun hwhole => ?_) (fun hno => ?_)) (fun h => by simp at h))
            · have hc := ((hcutr.1 (by omega)).1 his)
              rw [hc] at r18 o18
              refine StrC.mk o18.rd (fun b o v h => Held.no h) (StrC.mk o17'.rd (fun b o v h => Held.no h) ?_)
              rw [toList_mk]
              refine If.not (If.cases (fun _ => ⟨hJ.drew, rJ.no (Ext.refl _ _).drew, _, _, r18.no (Ext.refl _ _).drew, fun _ => ⟨rfl, rfl⟩, fun h => by omega⟩) (fun h => by simp at h))
            · have hc := ((hcutr.2 (by omega)).1 his)
              exact ⟨hJ.drew, rJ.no (Ext.refl _ _).drew, _, _, r18.no (Ext.refl _ _).drew, fun h => by omega, fun _ => hc⟩
          · refine readerNum_spec r16 fun w19 r19 e19 z19 => readerNum_spec (one e19 rr16) fun w20 r20 e20 z20 => ?_
            rw [w1' his] at r19
            rw [w1' his]
            have e1920 : Ext (fun i => i = rb ∨ i = rb2) w16 w20 := (e19.mono fun i _ h => .inl h).trans e20 fun i _ h => .inr h
            have old20 : Ext No w w20 := old16.trans e1920 fun i hi e => by rcases e with e | e <;> omega
            have hJ : Ext (fun i => i = rb ∨ i = rb2) w15 w20 := ext16.trans e1920 fun i _ h => h
            have rJ : Rdr w20.heap rb s1 (encs q) (encs (q.take (j + 1))).length 0 := by rw [hlen2]; exact two e20 r19
            refine Ix.thing (hl.no old20) (by omega) (by omega) fun _ _ x' hx' hc1 _ _ => ⟨_, hc1, ?_⟩
            rw [ej] at hx'
            obtain rfl : x = x' := by rw [hx] at hx'; exact Option.some.inj hx'
            refine If.bne (fun h => absurd rfl h) (fun _ => If.dec (fun hwhole => ?_) (fun hno => ?_))
            · have hc := ((hcutr.1 (by omega)).2 his)
              rw [hc] at r20
              rw [hc]
              exact If.bne (fun h => absurd rfl h) (fun _ => ⟨hJ, rJ, _, _, r20, fun _ => ⟨rfl, rfl⟩, fun h => by omega⟩)
            · have hc := ((hcutr.2 (by omega)).2 his)
              exact ⟨hJ, rJ, _, _, r20, fun h => by omega, fun _ => hc⟩
        · rintro _ w21 ⟨ext21, r21, a2, f2, rr21, hwh2, hnw2⟩
          refine readerDone_spec rr21 fun w22 hh22 e22 => ?_
          have fin : Ar .i64 ((j : Int) + 1) fun z => ∃ m1, m1 < l.len - j ∧ ∃ j' : Nat, z = j' ∧ m1 = l.len - j' ∧ j' ≤ l.len ∧ Ext (fun i => i = rb ∨ i = rb2) w15 w22 ∧ Rdr w22.heap rb s1 (encs q) (encs (q.take j')).length 0 ∧
              ∃ a' f', Rdr w22.heap rb2 s2 ((encs q).take n) a' f' ∧ ((encs (q.take j')).length ≤ n → a' = (encs (q.take j')).length ∧ f' = 0) ∧ (n < (encs (q.take j')).length → f' = 4) :=
            Ar.i64 (by omega) ⟨_, by omega, j + 1, by omega, rfl, by omega, ext21.no e22, r21.no e22, a2, f2, rr21.no e22, hwh2, hnw2⟩
          refine If.not (If.dec (fun _ => fin) (fun hno => If.bne (fun h => ?_) (fun _ => fin)))
          have hf4 := hnw2 (by omega)
          subst hf4
          simp [rDone] at h
      · have hjq : j = q.length := by omega
        subst hjq
        rw [List.take_length] at r16
        refine readerDone_spec r16 fun w23 hh23 e23 => ?_
        have e : rDone (encs q) (encs q).length 0 = (0, ((encs q).length : Int)) := by simp [rDone]
        rw [e]
        refine If.beq (fun _ => If.beq (fun _ => known_spec fun w' e' => ⟨rfl, old16.no (e23.no e')⟩) (fun h => absurd (by omega) h)) (fun h => absurd rfl h)
end Go.Proofs.Ytbkhcmldclgkoaa
