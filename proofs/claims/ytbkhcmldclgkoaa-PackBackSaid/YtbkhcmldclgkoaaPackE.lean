/- Layer 7: PackReads. -/
import Derived.Test.YtbkhcmldclgkoaaPackD
namespace Go.Proofs.Ytbkhcmldclgkoaa
open Go.V Go.V.Pk
theorem refReaderText_spec {w : World} {rb : Nat} {s : Sl} {l : List Int} {at_ : Nat} {f : Int} {most : Int} {K : Sl → World → Prop} (hm : most ≤ 9223372036854775807) (r : Rdr w.heap rb s l at_ f) (hl47 : l.length ≤ 70368744177664)
    (k : ∀ t w', Rdr w'.heap rb s l (rText most l at_ f).2.1 (rText most l at_ f).2.2 → Ext (· = rb) w w' → OwnB w'.heap w.heap.size t (rText most l at_ f).1 → K t w') : C_ref07_Reader_Text (some ⟨rb, 0, none⟩) most w K := by
  apply S_ref07_Reader_Text
  obtain ⟨T, hT⟩ := r.blk
  obtain ⟨hrb, _⟩ := Array.getElem?_eq_some_iff.1 hT
  have hs := r.rd.len
  have hlen := r.len
  have hle := r.le
  have hcap := r.rd.cap
  refine Nn.mk ⟨_, Cell.lst hT rfl, If.bne (fun hf => ?_) (fun hf => ?_)⟩
  · have e : rText most l at_ f = ([], at_, f) := by simp [rText, hf]
    rw [e] at k
    exact k _ w r (Ext.refl _ _) (Own.nil _ _ _ _)
  · subst hf
    refine ⟨Ext No w, (Ext.refl _ _).drew, Nn.mk ⟨_, Held.cell (Cell.lst hT rfl), Nn.mk ⟨_, Held.cell (Cell.lst hT rfl), Cut.mk (by omega) (by omega) (by omega) (by omega) ?_⟩⟩⟩
    have hcut := r.rd.cut (lo := at_) (hi := s.len) (mx := s.cap) (by omega) (by omega) (by omega)
    have e3 : (((s.len : Nat) : Int) - (at_ : Int)).toNat = s.len - at_ := by omega
    have e4 : (((s.cap : Nat) : Int) - (at_ : Int)).toNat = s.cap - at_ := by omega
    simp only [Int.toNat_natCast, e3, e4]
    have hd : RdB (drewW w).heap ⟨cutA s.a s.cap at_ 1, s.len - at_, s.cap - at_⟩ (l.drop at_) := by
      have e5 : List.take (s.len - at_) (List.drop at_ l) = List.drop at_ l := List.take_of_length_le (by simp; omega)
      have := hcut
      simp only [Nat.mul_one, ← List.map_drop, ← List.map_take, e5] at this
      exact this
    refine taken_spec hd (r.rng.drop _) (by simp; omega) ⟨(Ext.refl _ _).drew, ?_⟩
    have htk := tk_fault (l.drop at_) 0 0
    have hnn := tk_nonneg (l.drop at_) 0 0 (r.rng.drop _) (by omega)
    have hr : rText most l at_ 0 = if (tk 0 0 (l.drop at_)).2.2 ≠ 0 then ([], at_, (tk 0 0 (l.drop at_)).2.2) else if (tk 0 0 (l.drop at_)).1 > max most 0 then ([], at_, 3)
        else if (tk 0 0 (l.drop at_)).1 > (l.length : Int) - (at_ + (tk 0 0 (l.drop at_)).2.1 : Nat) then ([], at_, 4)
        else ((l.drop (at_ + (tk 0 0 (l.drop at_)).2.1)).take (tk 0 0 (l.drop at_)).1.toNat, at_ + (tk 0 0 (l.drop at_)).2.1 + (tk 0 0 (l.drop at_)).1.toNat, 0) := rfl
    generalize tk 0 0 (l.drop at_) = t at *
    obtain ⟨n, j, e⟩ := t
    simp only [List.length_drop] at htk hr hnn ⊢
    refine ⟨fun e' w' => w' = drewW w ∧ e' = (if e ≠ 0 then e else if n > max most 0 then 3 else 0), ?_, ?_⟩
    · refine If.beq (fun he => ?_) (fun he => ⟨rfl, by rw [if_pos he]⟩)
      subst he
      refine If.dec (fun h1 => If.dec (fun h2 => ⟨rfl, ?_⟩) (fun h2 => If.dec (fun h3 => by omega) (fun h3 => ⟨rfl, ?_⟩))) (fun h1 => If.dec (fun h2 => Ar.u64 (by omega) (If.dec (fun h3 => ⟨rfl, ?_⟩) (fun h3 => ⟨rfl, ?_⟩))) (fun h2 => by omega))
      · rw [if_neg (by simp), if_pos (by omega)]
      · rw [if_neg (by simp), if_neg (by omega)]
      · rw [if_neg (by simp), if_pos (by omega)]
      · rw [if_neg (by simp), if_neg (by omega)]
    · rintro _ e' w' ⟨rfl, he'⟩
      refine ⟨fun e'' w'' => w''.heap = w.heap ∧ Ext No w w'' ∧ ((e'' ≠ 0 ∧ rText most l at_ 0 = ([], at_, e'')) ∨ (e'' = 0 ∧ e = 0 ∧ n ≤ (l.length : Int) - (at_ + j : Nat) ∧ rText most l at_ 0 = ((l.drop (at_ + j)).take n.toNat, at_ + j + n.toNat, 0))), ?_, ?_⟩
      · refine ⟨Ext No w, (Ext.refl _ _).drew.drew, If.beq (fun h0 => ?_) (fun h0 => ⟨rfl, (Ext.refl _ _).drew.drew, .inl ⟨h0, ?_⟩⟩)⟩
        · have he : e = 0 := by
            rw [h0] at he'
            by_cases h : e = 0
            · exact h
            · rw [if_pos h] at he'; exact absurd he'.symm h
          have hnm : ¬ n > max most 0 := fun h => by
            rw [if_neg (by simp [he]), if_pos h] at he'; omega
          subst he
          rw [if_neg (by simp), if_neg hnm] at hr
          have hj : j ≤ l.length - at_ := by rcases htk with ⟨_, _, h⟩ | ⟨h, _⟩; omega; exact absurd rfl h
          refine Nn.mk ⟨_, Held.cell (Cell.lst hT rfl), Nn.mk ⟨_, Held.cell (Cell.lst hT rfl), Ar.i64 (by omega) (Ar.i64 (by omega) (Ar.u64 (by omega) (If.dec (fun h => ⟨rfl, (Ext.refl _ _).drew.drew, .inl ⟨by decide, ?_⟩⟩) (fun h => ⟨rfl, (Ext.refl _ _).drew.drew, .inr ⟨h0, rfl, by omega, ?_⟩⟩))))⟩⟩
          · rw [hr, if_pos (by omega)]
          · rw [hr, if_neg (by omega)]
        · rw [hr]
          by_cases h : e ≠ 0
          · rw [if_pos h] at he'; rw [if_pos h, he']
          · rw [if_neg h] at he' ⊢
            by_cases h2 : n > max most 0
            · rw [if_pos h2] at he'; rw [if_pos h2, he']
            · rw [if_neg h2] at he'; exact absurd he' h0
      · rintro _ e'' w3 ⟨hh, hx, h⟩
        have hT3 : w3.heap[rb]? = some (.cells [s.v, .int .i64 at_, .int .i64 0].toArray T (0, 0)) := by rw [hh]; exact hT
        have r3 : Rdr w3.heap rb s l at_ 0 := r.no hx
        have e5 : w3.heap.size = w.heap.size := by rw [hh]
        refine If.bne (fun he => ?_) (fun he => ?_)
        · rcases h with ⟨_, h⟩ | ⟨h, _⟩
          · rw [h] at k
            exact Nn.mk (St1.mk hT3 (by simp) rfl fun w4 hw => k _ w4 (r3.set hw r3.le) ((Ext.of_no hx).trans hw.ext fun _ _ h => h) (Own.nil _ _ _ _))
          · exact absurd h he
        · rcases h with ⟨h, _⟩ | ⟨_, h0, h1, h⟩
          · exact absurd he h
          · subst h0
            rw [h] at k
            have hj : j ≤ l.length - at_ := by rcases htk with ⟨_, _, h⟩ | ⟨h, _⟩; omega; exact absurd rfl h
            refine ⟨fun m t i w' => ∃ q : Nat, i = q ∧ m = n.toNat - q ∧ q ≤ n.toNat ∧ OwnB w'.heap w.heap.size t ((l.drop (at_ + j)).take q) ∧ Rdr w'.heap rb s l at_ 0 ∧ Ext No w w', ⟨_, 0, rfl, rfl, Nat.zero_le _, Own.nil _ _ _ _, r3, hx⟩, ?_⟩
            rintro _ m t i w5 ⟨q, rfl, rfl, hq, own, r5, ext5⟩
            obtain ⟨T5, hT5⟩ := r5.blk
            refine Ar.i64 (by omega) (If.dec (fun hlt => ?_) (fun hge => ?_))
            · have hne : l.map (Value.int .u8) ≠ [] := by intro e; simp at e; subst e; simp at h1; omega
              have hrbt : ¬ t.blk = some rb := fun e => by have := (own.lt e).1; omega
              have hsbt : ∀ b, s.blk = some b → ¬ t.blk = some b := fun b hb e => by
                have h1 := (own.lt e).1
                have h2 := r.rd.lt hne hb
                omega
              refine ⟨Ext (fun b => t.blk = some b) w5, (Ext.refl _ _).drew, Nn.mk ⟨_, Held.but (Cell.lst hT5 rfl) hrbt, Nn.mk ⟨_, Held.but (Cell.lst hT5 rfl) hrbt, Ar.i64 (by omega) (Ar.i64 (by omega) (Ix.int r5.rd (by omega) (by omega) fun b o hsb ha => ⟨_, Held.but ha (hsbt b hsb), fun b w6 new => ⟨(Ext.refl _ _).drew.no new.ext, ?_⟩⟩))⟩⟩⟩
              have own6 := Own.no (w := drewW w5) own new.ext
              have ht := own.len
              have hsz := ext5.size
              have hsz6 : w5.heap.size ≤ w6.heap.size := new.ext.size
              rw [List.length_take] at ht
              refine app_uint8 own6 (by omega) ((Own.new (sz := 1) (n := 1) new rfl (by simp [oneC])).rd.src) (by show (t.len + 1) * 1 ≤ _; omega) fun t' w7 own7 _ ext7 _ => ?_
              have hno : Ext (fun b => t.blk = some b) w5 w7 := ((Ext.refl _ w5).drew.no new.ext).trans ext7 fun i hi e => e
              refine ⟨hno, Ar.i64 (by omega) ⟨_, ?_, q + 1, by omega, rfl, by omega, ?_, r5.ext hno hrbt hsbt, ext5.trans hno fun i hi e => ?_⟩⟩
              · omega
              · have e1 : ((at_ : Int) + j + q).toNat = at_ + j + q := by omega
                rw [e1] at own7
                have e2 : List.take (q + 1) (List.drop (at_ + j) l) = List.take q (List.drop (at_ + j) l) ++ [l.getD (at_ + j + q) 0] := by
                  rw [List.take_succ_eq_append_getElem (by rw [List.length_drop]; omega)]
                  simp [List.getD, List.getElem?_eq_getElem (show at_ + j + q < l.length by omega)]
                rw [e2]
                simpa [OwnB] using own7
              · have := (own.lt e).1; omega
            · have eq : q = n.toNat := by omega
              subst eq
              refine Nn.mk ⟨_, Cell.lst hT5 rfl, Ar.i64 (by omega) (Ar.i64 (by omega) (Ar.i64 (by omega) (Nn.mk (St1.mk hT5 (by simp) rfl fun w8 hw => k t w8 (r5.set (T := T5) ?_ (by show at_ + j + n.toNat ≤ _; omega)) ((Ext.of_no ext5).trans hw.ext fun _ _ h => h) (own.ext hw.ext fun b hb e => ?_)))))⟩
              · have e1 : (at_ : Int) + j + n = ((at_ + j + n.toNat : Nat) : Int) := by omega
                rw [e1] at hw
                exact hw
              · have := (own.lt hb).1; have e' : b = rb := e; omega
/-- A list of asks: kind and most, one behind the other. -/
def askC (l : List (Int × Int)) : List Value := l.flatMap fun p => [.int .i64 p.1, .int .i64 p.2]
theorem askC_len (l : List (Int × Int)) : (askC l).length = l.length * 2 := by
  induction l with
  | nil => rfl
  | cons x r ih => simp only [askC, List.flatMap_cons, List.length_append, List.length_cons, List.length_nil] at ih ⊢; omega
theorem askC_get (l : List (Int × Int)) (i : Nat) (h : i < l.length) : (askC l)[i * 2]? = some (.int .i64 l[i].1) ∧ (askC l)[i * 2 + 1]? = some (.int .i64 l[i].2) := by
  induction l generalizing i with
  | nil => simp at h
  | cons x r ih =>
    cases i with
    | zero => exact ⟨rfl, rfl⟩
    | succ i =>
      have := ih i (by simpa using h)
      simp only [askC, List.flatMap_cons, List.cons_append, List.nil_append, List.getElem_cons_succ] at this ⊢
      rw [show (i + 1) * 2 = i * 2 + 1 + 1 from by omega]
      exact this
theorem Ix.ask {w : World} {s : Sl} {l : List (Int × Int)} {i : Int} {K : Addr → Prop} (h : Rd w.heap s 2 (askC l)) (h0 : 0 ≤ i) (h1 : i < (s.len : Int))
    (k : ∀ b o p, l[i.toNat]? = some p → Cell w ⟨b, o, none⟩ (.int .i64 p.1) → Cell w ⟨b, o + 1, none⟩ (.int .i64 p.2) → K ⟨b, o, none⟩) : Ix s.a s.len i 2 K := by
  have hl : l.length = s.len := by have := h.len; rw [askC_len] at this; omega
  have hlt : i.toNat < l.length := by omega
  obtain ⟨b, off, ha, hc⟩ := h.at_ (by intro e; have := askC_len l; rw [e] at this; simp at this; omega)
  refine ⟨_, ha, h0, h1, ?_⟩
  rw [addr_add_none rfl]
  obtain ⟨g1, g2⟩ := askC_get l i.toNat hlt
  obtain ⟨p1, e1⟩ := List.getElem?_eq_some_iff.1 g1
  obtain ⟨p2, e2⟩ := List.getElem?_eq_some_iff.1 g2
  refine k _ _ l[i.toNat] (List.getElem?_eq_getElem hlt) (Cell.mk ?_) (Cell.mk ?_)
  · rw [hc _ p1, e1]
  · rw [Nat.add_assoc, hc _ p2, e2]
theorem packReads_spec {b l : Sl} {w : World} {lb : List Int} {q : List (Int × Int)} (hb : RdB w.heap b lb) (h8 : B8 lb) (hq : Rd w.heap l 2 (askC q)) (hmost : ∀ p ∈ q, p.2 ≤ 9223372036854775807) (hl63 : l.len ≤ 9223372036854775807) :
    C_law07_PackReads b l w fun r w' => r = true ∧ Ext No w w' := by
  apply S_law07_PackReads
  have hlb := hb.len
  refine If.dec (fun _ => known_spec fun w' ext => ⟨rfl, ext⟩) (fun hle => ?_)
  refine copy_spec hb (by omega) fun s1 w2 own1 ext1 => newReader_spec own1.rd h8 (by omega) fun rb s w3 r hrb hsb ext2 => copy_spec (hb.no (ext1.no ext2)) (by omega) fun s3 w4 own3 ext3 => ?_
  refine fun b1 w5 new => ⟨rfl, ?_⟩
  have hnew := new.get
  refine ⟨_, _, _, hnew, rfl, by simp, .inr (.inr (Nat.le_refl _)), by simp [oneC], fun w6 hw => ?_⟩
  have own3' := own3.no new.ext
  have hb1 : b1 = w4.heap.size := new.at_
  have sz1 := ext1.size
  have sz2 := ext2.size
  have sz3 := ext3.size
  have sz5 := new.size
  have sz6 : w6.heap.size = w5.heap.size := hw.size
  have hne3 : s3.blk ≠ some b1 := fun e => by have := (own3.lt e).2; omega
  have rb2 : rb < w3.heap.size := by obtain ⟨T, hT⟩ := r.blk; exact (Array.getElem?_eq_some_iff.1 hT).1
  have rr : Rdr w6.heap b1 s3 lb 0 0 := by
    refine ⟨⟨_, hw.get hnew⟩, (own3'.ext hw.ext fun i hi e => hne3 (by rw [hi, e])).rd, hne3, h8, by omega, by omega⟩
  have r6 : Rdr w6.heap rb s lb 0 0 := (r.no (ext3.no new.ext)).ext hw.ext (fun e => by have e' : rb = b1 := e; omega) fun i hi e => by have := (hsb i hi).2; have e' : i = b1 := e; omega
  have s3b : ∀ i, s3.blk = some i → w3.heap.size ≤ i ∧ i < w4.heap.size := fun i hi => own3.lt hi
  have ext6 : Ext No w w6 := ((((ext1.no ext2).no ext3).no new.ext)).trans hw.ext fun i hi e => by have e' : i = b1 := e; omega
  have own6 : OwnB w6.heap w.heap.size s1 lb := (((own1.no ext2).no ext3).no new.ext).ext hw.ext fun i hi e => by
    have := (own1.lt hi).2; have e' : i = b1 := e; omega
  -- what holds of both readers, and of what is old
  refine ⟨fun m t w' => ∃ j : Nat, t = j ∧ m = s1.len - j ∧ j ≤ s1.len ∧ (∃ l1, B8 l1 ∧ OwnB w'.heap w.heap.size s1 l1) ∧ Rdr w'.heap rb s lb 0 0 ∧ Rdr w'.heap b1 s3 lb 0 0 ∧ Ext No w w' ∧ w'.heap.size = w6.heap.size, ⟨_, 0, rfl, rfl, Nat.zero_le _, ⟨lb, h8, own6⟩, r6, rr, ext6, rfl⟩, ?_⟩
  rintro _ m t w7 ⟨j, rfl, rfl, hj, ⟨l1, hl1, o1⟩, r7, rr7, ext7, sz7⟩
  have hs1 := own1.len
  refine If.dec (fun hlt => ?_) (fun hge => ?_)
  · refine Ix.int o1.rd (by omega) (by omega) fun _ _ _ ha => ⟨_, ha, Nm.as (bitI_xor255 (hl1.get _)) ?_⟩
    refine St1.own o1 (by omega) (by omega) rfl fun w8 o8 ext8 sz8 => Ar.i64 (by omega) ⟨_, ?_, j + 1, by omega, rfl, by omega, ⟨l1.set (j : Int).toNat (255 - l1.getD (j : Int).toNat 0), ?_, ?_⟩, ?_, ?_, ?_, by omega⟩
    · omega
    · intro x hx
      rcases List.mem_or_eq_of_mem_set hx with h | h
      · exact hl1 x h
      · have := hl1.get (j : Int).toNat; omega
    · show Own _ _ _ _ _ _
      rw [List.map_set]; exact o8
    · refine r7.ext ext8 (fun e => ?_) fun i hi e => ?_
      · have := (own1.lt e).2; omega
      · have h1 := (own1.lt e).2
        have h2 := (hsb i hi).1
        omega
    · refine rr7.ext ext8 (fun e => ?_) fun i hi e => ?_
      · have := (own1.lt e).2; omega
      · have h1 := (own1.lt e).2
        have h2 := (s3b i hi).1
        omega
    · exact ext7.trans ext8 fun i hi e => by have := (own1.lt e).1; omega
  · refine ⟨fun m t w' => ∃ j : Nat, t = j ∧ m = l.len - j ∧ j ≤ l.len ∧ (∃ a f, Rdr w'.heap rb s lb a f ∧ Rdr w'.heap b1 s3 lb a f) ∧ Ext No w w' ∧ w6.heap.size ≤ w'.heap.size, ⟨_, 0, rfl, rfl, Nat.zero_le _, ⟨0, 0, r7, rr7⟩, ext7, by omega⟩, ?_⟩
    rintro _ m t w9 ⟨j, rfl, rfl, hj, ⟨a, f, r9, rr9⟩, ext9, sz9⟩
    have hq9 := hq.no ext9
    -- one reader is asked, then the other
    have one : ∀ {wa wb : World} {a' : Nat} {f' : Int}, Ext (· = rb) wa wb → Rdr wa.heap b1 s3 lb a' f' → Rdr wb.heap b1 s3 lb a' f' := fun e rx => rx.ext e (fun e' => by have e'' : b1 = rb := e'; omega) fun i hi e' => by
      have h1 := (s3b i hi).1; have e'' : i = rb := e'; omega
    have two : ∀ {wa wb : World} {a' : Nat} {f' : Int}, Ext (· = b1) wa wb → Rdr wa.heap rb s lb a' f' → Rdr wb.heap rb s lb a' f' := fun e rx => rx.ext e (fun e' => by have e'' : rb = b1 := e'; omega) fun i hi e' => by
      have h1 := (hsb i hi).2; have e'' : i = b1 := e'; omega
    have old : ∀ {wa : World}, Ext (fun i => i = rb ∨ i = b1) w9 wa → Ext No w wa := fun e => ext9.trans e fun i hi e' => by
      rcases e' with e' | e' <;> omega
    refine If.dec (fun hlt => ?_) (fun hge => known_spec fun w' ext => ⟨rfl, ext9.no ext⟩)
    refine ⟨fun w' => (∃ a f, Rdr w'.heap rb s lb a f ∧ Rdr w'.heap b1 s3 lb a f) ∧ Ext No w w' ∧ w6.heap.size ≤ w'.heap.size, ?_, ?_⟩
    · refine Ix.ask hq9 (by omega) (by omega) fun bb oo p hp hc1 hc2 => ⟨_, hc1, If.beq (fun h1 => ?_) (fun _ => If.beq (fun h2 => ?_) (fun _ => If.beq (fun h3 => ?_) (fun _ => If.beq (fun h4 => ?_) (fun _ => ⟨⟨a, f, r9, rr9⟩, ext9, sz9⟩))))⟩
      · refine readerNum_spec r9 fun w10 r10 e10 z10 => refReaderNum_spec (one e10 rr9) fun w11 r11 e11 z11 => If.bne (fun h => absurd rfl h) (fun _ => ⟨⟨_, _, two e11 r10, r11⟩, old ((e10.mono fun i _ h => .inl h).trans e11 fun i _ h => .inr h), by omega⟩)
      · refine readerByte_spec r9 fun w10 r10 e10 z10 => refReaderByte_spec (one e10 rr9) fun w11 r11 e11 z11 => If.bne (fun h => absurd rfl h) (fun _ => ⟨⟨_, _, two e11 r10, r11⟩, old ((e10.mono fun i _ h => .inl h).trans e11 fun i _ h => .inr h), by omega⟩)
      · have hpm : p.2 ≤ 9223372036854775807 := hmost p (List.mem_of_getElem? hp)
        refine Ix.ask hq9 (by omega) (by omega) fun _ _ p' hp' _ hc2 => ⟨_, hc2, ?_⟩
        obtain rfl : p = p' := by rw [hp] at hp'; exact Option.some.inj hp'
        refine readerText_spec hpm r9 (by omega) fun t w10 r10 e10 o10 => ?_
        have extA : Ext No w w10 := old (e10.mono fun i _ h => .inl h)
        have szA := e10.size
        refine Ix.ask (hq.no extA) (by omega) (by omega) fun _ _ p' hp' _ hc2 => ⟨_, hc2, ?_⟩
        obtain rfl : p = p' := by rw [hp] at hp'; exact Option.some.inj hp'
        refine refReaderText_spec hpm (one e10 rr9) (by omega) fun t2 w11 r11 e11 o11 => ?_
        have szB := e11.size
        have o10' : OwnB w11.heap w9.heap.size t (rText p.2 lb a f).1 := o10.ext e11 fun i hi e => by
          have := (o10.lt hi).1; have e' : i = b1 := e; omega
        have ht8 : B8 (rText p.2 lb a f).1 := by
          unfold rText
          split
          · exact B8.nil
          · simp only
            split
            · exact B8.nil
            · split
              · exact B8.nil
              · split
                · exact B8.nil
                · exact (h8.drop _).take _
        refine same_spec o10'.rd o11.rd ht8 ht8 ?_
        rw [decide_eq_true rfl]
        have extB : Ext No w w11 := old ((e10.mono fun i _ h => .inl h).trans e11 fun i _ h => .inr h)
        refine ⟨fun m t' w' => ∃ j : Nat, t' = j ∧ m = t.len - j ∧ j ≤ t.len ∧ (∃ l1, OwnB w'.heap w9.heap.size t l1) ∧ (∃ a f, Rdr w'.heap rb s lb a f ∧ Rdr w'.heap b1 s3 lb a f) ∧ Ext No w w' ∧ w'.heap.size = w11.heap.size,
          ⟨_, 0, rfl, rfl, Nat.zero_le _, ⟨_, o10'⟩, ⟨_, _, two e11 r10, r11⟩, extB, rfl⟩, ?_⟩
        have htl := o10.len
        have htb : (rText p.2 lb a f).1.length ≤ 4096 := by
          unfold rText
          split
          · simp
          · simp only
            split
            · simp
            · split
              · simp
              · split
                · simp
                · simp only [List.length_take, List.length_drop]; omega
        rintro _ m t' w17 ⟨j', rfl, rfl, hj', ⟨l1, o17⟩, ⟨a', f', r17, rr17⟩, ext17, sz17⟩
        refine If.dec (fun hlt => ?_) (fun hge => ⟨⟨a', f', r17, rr17⟩, ext17, by omega⟩)
        refine St1.own o17 (by omega) (by omega) rfl fun w18 o18 ext18 sz18 => Ar.i64 (by omega) ⟨_, ?_, j' + 1, by omega, rfl, by omega, ⟨l1.set (j' : Int).toNat 7, ?_⟩, ⟨a', f', ?_, ?_⟩, ?_, by omega⟩
        · omega
        · show Own _ _ _ _ _ _
          rw [List.map_set]; exact o18
        · refine r17.ext ext18 (fun e => ?_) fun i hi e => ?_
          · have := (o17.lt e).1; omega
          · have h1 := (o17.lt e).1
            have h2 := (hsb i hi).2
            omega
        · refine rr17.ext ext18 (fun e => ?_) fun i hi e => ?_
          · have := (o17.lt e).1; omega
          · have h1 := (o17.lt e).1
            have h2 := (s3b i hi).2
            omega
        · exact ext17.trans ext18 fun i hi e => by have := (o17.lt e).1; omega
      · obtain ⟨T, hT⟩ := rr9.blk
        have hl3 := rr9.rd.len
        have hle9 := rr9.le
        refine ⟨Ext No w9, (Ext.refl _ _).drew, ⟨_, Held.cell (Cell.lst hT rfl), ⟨_, Held.cell (Cell.lst hT rfl), Ar.i64 (by omega) (readerLeft_spec (w := drewW w9) r9 fun w19 hh e19 => ⟨(Ext.refl _ _).drew.no e19, If.bne (fun h => ?_) (fun _ => ?_)⟩)⟩⟩⟩
        · exact absurd (by omega) h
        · have e9 : Ext No w9 w19 := (Ext.refl _ _).drew.no e19
          exact ⟨⟨a, f, r9.no e9, rr9.no e9⟩, ext9.no e9, by have := e9.size; omega⟩
    · rintro _ w20 ⟨⟨a', f', r20, rr20⟩, ext20, sz20⟩
      refine readerDone_spec r20 fun w21 hh21 e21 => refReaderDone_spec (rr20.no e21) fun w22 hh22 e22 => If.bne (fun h => absurd rfl h) (fun _ => If.bne (fun h => absurd rfl h) (fun _ => Ar.i64 (by omega) ⟨_, ?_, j + 1, by omega, rfl, by omega, ⟨a', f', r20.no (e21.no e22), rr20.no (e21.no e22)⟩, ext20.no (e21.no e22), ?_⟩))
      · omega
      · have := (e21.no e22).size; omega
end Go.Proofs.Ytbkhcmldclgkoaa
