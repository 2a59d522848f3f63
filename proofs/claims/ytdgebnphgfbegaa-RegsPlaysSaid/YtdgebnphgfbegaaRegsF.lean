/- Layer 9: the law RegsPlays. -/
import Derived.Test.YtdgebnphgfbegaaRegsE
namespace Go.Proofs.Ytdgebnphgfbegaa
open Go.V Go.V.Dk
theorem reserve_dev (R : RS) (D : DS) (p : Option Addr) : reserveR { R with dev := p } D = ((reserveR R D).1, (reserveR R D).2.1, { (reserveR R D).2.2.1 with dev := p }, (reserveR R D).2.2.2) := by
  unfold reserveR; split
  · rfl
  · split <;> rfl
theorem advance_dev (R : RS) (D : DS) (n : Int) (p : Option Addr) : advanceR { R with dev := p } D n = ((advanceR R D n).1, { (advanceR R D n).2.1 with dev := p }, (advanceR R D n).2.2) := by
  unfold advanceR; split
  · rfl
  · split <;> rfl
structure Kept (R R' : RS) : Prop where
  dev : R'.dev = R.dev
  limit : R'.limit = R.limit
  res : 0 ≤ R.reserved → 0 ≤ R'.reserved
  draws : R'.draws = R.draws
theorem reserve_kept (R : RS) (D : DS) : Kept R (reserveR R D).2.2.1 ∧ Little D (reserveR R D).2.2.2 := by
  have h := step_little D
  unfold reserveR; split
  · exact ⟨⟨rfl, rfl, id, rfl⟩, Little.refl _⟩
  · split
    · exact ⟨⟨rfl, rfl, fun h => by simp only; omega, rfl⟩, h⟩
    · exact ⟨⟨rfl, rfl, id, rfl⟩, h⟩
theorem advance_kept (R : RS) (D : DS) (n : Int) : Kept R (advanceR R D n).2.1 ∧ Little D (advanceR R D n).2.2 := by
  have h := step_little D
  unfold advanceR; split
  · exact ⟨⟨rfl, rfl, id, rfl⟩, Little.refl _⟩
  · split
    · exact ⟨⟨rfl, rfl, id, rfl⟩, h⟩
    · exact ⟨⟨rfl, rfl, id, rfl⟩, h⟩
section
variable {H : Type} {enc : TypeId × Value → H} {W : World}
theorem bytesLS_open {s : Sl} {ess : List (List Value)} (h : ElemsS enc Try.prog W T_sl_uint8 s ess) : ∃ L : List (List Int), RdL W.heap s L ∧ ∀ l ∈ L, l.length ≤ 140737488351232 := by
  obtain ⟨ins, h1, h2, h3⟩ := h.list slC (fun s => ∃ l : List Int, RdB W.heap s l ∧ B8 l ∧ l.length ≤ 140737488351232) (fun es hl hr => by
    obtain ⟨s, l, hs, rd, b8, hz⟩ := TyRS.bytes (e := T_uint8) (by kernel_rfl) (by kernel_rfl) (by kernel_rfl) (by kernel_rfl) hr
    exact ⟨s, hs, l, rd, b8, by have := RdB.len rd; omega⟩) (sz := 1) (by kernel_rfl) (by decide) (fun x _ v hv => by simp at hv; subst hv; rfl)
  have key : ∀ ins : List Sl, (∀ x ∈ ins, ∃ l : List Int, RdB W.heap x l ∧ B8 l ∧ l.length ≤ 140737488351232) → ∃ L : List (List Int), ins.length = L.length ∧ (∀ j (h1 : j < ins.length) (h2 : j < L.length), RdB W.heap ins[j] L[j]) ∧ ∀ l ∈ L, B8 l ∧ l.length ≤ 140737488351232 := by
    intro ins
    induction ins with
    | nil => intro _; exact ⟨[], rfl, fun j h1 => by simp at h1, fun l hl => by simp at hl⟩
    | cons x ins ih =>
      intro hx
      obtain ⟨l, rd, b8⟩ := hx x List.mem_cons_self
      obtain ⟨L, e1, e2, e3⟩ := ih fun y hy => hx y (List.mem_cons_of_mem _ hy)
      refine ⟨l :: L, by simp [e1], fun j h1 h2 => ?_, fun m hm => ?_⟩
      · cases j with
        | zero => exact rd
        | succ j => exact e2 j (by simpa using h1) (by simpa using h2)
      · rcases List.mem_cons.1 hm with rfl | hm
        · exact b8
        · exact e3 m hm
  obtain ⟨L, e1, e2, e3⟩ := key ins h3
  exact ⟨L, ⟨⟨ins, h2, e1, e2⟩, fun l hl => (e3 l hl).1⟩, fun l hl => (e3 l hl).2⟩
end
section
variable {w w' : World}
/-- One more copy is appended, outside of a region. -/
theorem appPlain {T : Tg} {s v : Sl} {L : List (List Int)} {l : List Int} {ko kr : Nat} {K : Sl → World → Prop} (q : Rows w.heap T ko kr s L) (hk : ko ≠ kr) (old : ∀ b, T b ≠ none → b < w.heap.size) (rd : RdB w.heap v l) (hl : l.length ≤ 140737488351232) (hL : L.length ≤ 4294967296)
    (k : ∀ s' T' w', Rows w'.heap T' ko kr s' (L ++ [l]) → (∀ b, T' b ≠ none → T b ≠ none ∨ (w.heap.size ≤ b ∧ b < w'.heap.size)) → Ext (fun b => T b = some (ko, 0)) w w' → K s' w') :
    C_ref01_Copy v w fun r w4 => NewW w4 (.cells [.slice r.a r.len r.cap].toArray 23) fun b_1 w5 => AppW Try.prog 49 49 s (.slice (some (Addr.mk b_1 0 none)) 1 1) K w5 := by
  refine copy_spec rd (by omega) fun v4 w4 o4 x4 => fun b5 w5 n5 => ?_
  have x5 := x4.no n5.ext
  have z5 := n5.size
  have z4 := x4.size
  have c5 : Rd w5.heap ⟨some ⟨b5, 0, none⟩, 1, 1⟩ 1 [v4.v] := (Own.new (sz := 1) (n := 1) n5 rfl (by simp [oneC])).rd
  let T5 : Tg := fun i => if v4.blk = some i then some (kr, L.length) else T i
  have hn : ∀ b, v4.blk = some b → T b = none := fun b hb => Classical.byContradiction fun h => by have := old b h; have := (o4.lt hb).1; omega
  have hT : ∀ b t, T b = some t → T5 b = some t := fun b t h => by
    show (if v4.blk = some b then some (kr, L.length) else T b) = some t
    rw [if_neg (fun e => by rw [hn b e] at h; cases h)]; exact h
  have hT5 : ∀ b, T5 b ≠ none → T b ≠ none ∨ v4.blk = some b := fun b h => by
    by_cases e : v4.blk = some b
    · exact .inr e
    · left
      have : T5 b = T b := if_neg e
      rw [← this]; exact h
  refine ((q.no x5).tags hT).app hk ((o4.mono (Nat.zero_le _)).no n5.ext) (fun b h => if_pos h) (fun b h => ?_) c5 hL fun s6 T6 w6 rows6 t6 t6' x6 => ?_
  · rcases hT5 b h with h | h
    · have := old b h; omega
    · have := (o4.lt h).2; omega
  · have x6' : Ext (fun b => T b = some (ko, 0)) w5 w6 := x6.mono fun i _ h => by
      by_cases e : v4.blk = some i
      · have : T5 i = some (kr, L.length) := if_pos e
        rw [this] at h
        simp only [Option.some.injEq, Prod.mk.injEq] at h; exact absurd h.1.symm hk
      · have : T5 i = T i := if_neg e
        rw [← this]; exact h
    have xw : Ext (fun b => T b = some (ko, 0)) w w6 := x5.of_no.trans x6' fun _ _ h => h
    have z6 := x6.size
    refine k s6 T6 w6 rows6 (fun b h => ?_) xw
    rcases t6' b h with h | h
    · rcases hT5 b h with h | h
      · exact .inl h
      · have := o4.lt h; right; omega
    · right; omega
/-- How the law stands behind j calls. -/
structure QSt (w0 : World) (db rb gb hb j : Nat) (w : World) (d : Dev) (T : Tg) (r : Dev) (D : DS) (g h : Rgs) (R : RS) : Prop where
  p : Pair w.heap d T r D
  q : RegsR w.heap g R
  s : GR w.heap h { R with dev := r.p }
  db : d.b = db
  rb : r.b = rb
  gb : g.rb = gb
  hb : h.rb = hb
  dev : R.dev = d.p
  gd : ∀ i, g.fp i → ¬ d.fp i
  gt : ∀ i, g.fp i → T i = none
  hd : ∀ i, h.fp i → ¬ d.fp i
  ht : ∀ i, h.fp i → T i = none
  gh : ∀ i, g.fp i → ¬ h.fp i
  fd : ∀ i, d.fp i → w0.heap.size ≤ i
  ft : ∀ i, T i ≠ none → w0.heap.size ≤ i
  fg : ∀ i, g.fp i → w0.heap.size ≤ i
  fh : ∀ i, h.fp i → w0.heap.size ≤ i
  x : Ext No w0 w
  st : 0 ≤ D.steps ∧ D.steps ≤ j
  wt : D.waits.length ≤ j
  rs : 0 ≤ R.reserved ∧ R.limit ≤ 18446744073709551615
variable {w0 : World} {db rb gb hb j : Nat} {d : Dev} {T : Tg} {r : Dev} {D : DS} {g h : Rgs} {R : RS}
theorem QSt.no (f : QSt w0 db rb gb hb j w d T r D g h R) (x : Ext No w w') : QSt w0 db rb gb hb j w' d T r D g h R :=
  ⟨f.p.no x, f.q.no x, f.s.no x, f.db, f.rb, f.gb, f.hb, f.dev, f.gd, f.gt, f.hd, f.ht, f.gh, f.fd, f.ft, f.fg, f.fh, f.x.no x, f.st, f.wt, f.rs⟩
theorem QSt.rbT (f : QSt w0 db rb gb hb j w d T r D g h R) : T r.b = some (0, 0) := f.p.r.hb
/-- Single cells of the four are written. -/
theorem QSt.four {w7 w8 : World} {D' : DS} {R' : RS} (f : QSt w0 db rb gb hb j w d T r D g h R) (q7 : RegsR w7.heap g R') (d7 : DiskR w7.heap d D') (x7 : Ext (fun i => i = g.rb ∨ i = d.b) w w7)
    (s8 : GR w8.heap h { R' with dev := r.p }) (r8 : RefR w8.heap T r D') (x8 : Ext (fun i => i = h.rb ∨ i = r.b) w7 w8) (kp : Kept R R') (li : Little D D') : QSt w0 db rb gb hb (j + 1) w8 d T r D' g h R' := by
  have h1 := f.st
  have h2 := f.wt
  have h3 := li.st
  have h4 := li.wt
  have h5 := f.rs
  refine ⟨⟨d7.ext x8 fun i hi h => ?_, r8, f.p.dis⟩, q7.ext x8 fun i hi h => ?_, s8, f.db, f.rb, f.gb, f.hb, kp.dev.trans f.dev, f.gd, f.gt, f.hd, f.ht, f.gh, f.fd, f.ft, f.fg, f.fh, (f.x.trans x7 fun i hi h => ?_).trans x8 fun i hi h => ?_, by omega, by omega, kp.res h5.1, by rw [kp.limit]; exact h5.2⟩
  · rcases h with h | h
    · exact f.hd i (.inl h) hi
    · have := f.p.dis i hi; rw [h, f.rbT] at this; cases this
  · rcases h with h | h
    · exact f.gh i hi (.inl h)
    · have := f.gt i hi; rw [h, f.rbT] at this; cases this
  · rcases h with h | h
    · have := f.fg i (.inl h); omega
    · have := f.fd i (.inl h); omega
  · rcases h with h | h
    · have := f.fh i (.inl h); omega
    · have := f.ft i (by rw [h, f.rbT]; simp); omega
theorem QSt.s7 {w7 : World} (f : QSt w0 db rb gb hb j w d T r D g h R) (x7 : Ext (fun i => i = g.rb ∨ i = d.b) w w7) : GR w7.heap h { R with dev := r.p } ∧ RefR w7.heap T r D := by
  refine ⟨f.s.ext x7 fun i hi h => ?_, f.p.r.ext x7 fun i hi h => ?_⟩
  · rcases h with h | h
    · exact f.gh _ (.inl rfl) (h ▸ hi)
    · exact f.hd i hi (.inl h)
  · rcases h with h | h
    · exact hi (f.gt i (.inl h))
    · exact hi (f.p.dis i (.inl h))
theorem QSt.next {d' : Dev} {T' : Tg} {r' : Dev} {D' : DS} (f : QSt w0 db rb gb hb j w d T r D g h R) (n : Next w d T r D w' d' T' r' D') (hb' : d'.b = d.b) : QSt w0 db rb gb hb (j + 1) w' d' T' r' D' g h R := by
  have h1 := f.st
  have h2 := f.wt
  have h3 := n.l.st
  have h4 := n.l.wt
  have z := f.x.size
  have ng : ∀ i, g.fp i → ¬ (d.fp i ∨ T i ≠ none) := fun i hi h => h.elim (f.gd i hi) fun h => h (f.gt i hi)
  have nh : ∀ i, h.fp i → ¬ (d.fp i ∨ T i ≠ none) := fun i hi h => h.elim (f.hd i hi) fun h => h (f.ht i hi)
  have hp : r.p = r'.p := by simp [Dev.p, n.rb]
  have s' := f.s.ext n.x nh
  rw [hp] at s'
  refine ⟨n.p, f.q.ext n.x ng, s', hb'.trans f.db, n.rb.trans f.rb, f.gb, f.hb, by rw [f.dev]; simp [Dev.p, hb'], fun i hi h => ?_, fun i hi => Classical.byContradiction fun h => ?_, fun i hi h => ?_, fun i hi => Classical.byContradiction fun h => ?_, f.gh, fun i hi => ?_, fun i hi => ?_, f.fg, f.fh, f.x.trans n.x fun i hi h => ?_, by omega, by omega, f.rs⟩
  · rcases n.gd i h with h | h
    · exact f.gd i hi h
    · have := f.q.lt hi; omega
  · rcases n.gt i h with h | h
    · exact h (f.gt i hi)
    · have := f.q.lt hi; omega
  · rcases n.gd i h with h | h
    · exact f.hd i hi h
    · have := f.s.old i hi; omega
  · rcases n.gt i h with h | h
    · exact h (f.ht i hi)
    · have := f.s.old i hi; omega
  · rcases n.gd i hi with h | h
    · exact f.fd i h
    · omega
  · rcases n.gt i hi with h | h
    · exact f.ft i h
    · omega
  · rcases h with h | h
    · have := f.fd i h; omega
    · have := f.ft i h; omega
theorem QSt.succ (f : QSt w0 db rb gb hb j w d T r D g h R) : QSt w0 db rb gb hb (j + 1) w d T r D g h R := by
  have h1 := f.st
  have h2 := f.wt
  exact ⟨f.p, f.q, f.s, f.db, f.rb, f.gb, f.hb, f.dev, f.gd, f.gt, f.hd, f.ht, f.gh, f.fd, f.ft, f.fg, f.fh, f.x, by omega, by omega, f.rs⟩
theorem lens_set {L L0 : List (List Int)} {i : Nat} {l : List Int} (h : L.map List.length = L0.map List.length) (hi : i < L.length) (hl : l.length = L[i].length) : (L.set i l).map List.length = L0.map List.length := by
  rw [← h, List.map_set, hl]
  apply List.ext_getElem (by simp)
  intro q h1 h2
  rw [List.getElem_set]
  split
  · rename_i e; subst e; simp
  · rfl
set_option maxHeartbeats 2000000 in
theorem regsPlays_spec {limit : Int} {draws l : Sl} {L : List (List Int)} {O : List ROp} (hl : 0 ≤ limit ∧ limit ≤ 18446744073709551615) (hL : RdL w.heap draws L) (hLl : ∀ x ∈ L, x.length ≤ 140737488351232) (hO : Rd w.heap l 8 (O.flatMap ROp.c)) (hlen : O.length = l.len) (ok : ∀ o ∈ O, o.ok w.heap) :
    C_law09_RegsPlays limit draws l w fun b w' => b = true ∧ Ext No w w' := by
  apply S_law09_RegsPlays
  have kn : ∀ {w1 : World}, Ext No w w1 → C_law09_known w1 fun r w' => r = true ∧ Ext No w w' := fun x => known9_spec fun w' x' => ⟨rfl, x.no x'⟩
  have hdl := hL.len
  refine heavy9_spec hL hLl hO hlen (fun o ho => ⟨(ok o ho).d.lb, (ok o ho).d.lm⟩) (fun w' x => If.yes (kn x)) fun w1 x1 hL1 hO4 => If.no ?_
  refine diskNew_spec (fun h => absurd (by omega) h) fun _ d w3 q3 fd x3 => ?_
  rw [show (8 : Int).toNat = 8 from rfl] at q3
  refine ⟨fun w' => w' = w3, If.no (If.bne (fun h => absurd rfl h) fun _ => rfl), ?_⟩
  rintro _ w3 rfl
  have z1 := x1.size
  have z3 := x3.size
  have x03 := x1.no x3
  refine ⟨fun m inv t w5 => ∃ (j : Nat) (T : Tg), t = j ∧ m = L.length - j ∧ j ≤ L.length ∧ Rows w5.heap T 1 2 inv (L.take j) ∧ (∀ i, T i ≠ none → w3.heap.size ≤ i ∧ i < w5.heap.size) ∧ Ext No w3 w5, ⟨_, 0, fun _ => none, rfl, rfl, Nat.zero_le _, Rows.nil _ _ _ _, fun i h => absurd rfl h, Ext.refl _ _⟩, ?_⟩
  rintro _ m inv t w5 ⟨j, T, rfl, rfl, hj, rows5, t5, x5⟩
  have z5 := x5.size
  refine If.dec (fun hlt => ?_) (fun hge => ?_)
  · have hj' : j < L.length := by omega
    refine (hL.no (x03.no x5)).ix (by omega) hlt fun b o v hi hc rd => ⟨v, hc, ?_⟩
    have rd' : RdB w5.heap v L[j] := by simpa using rd
    refine appPlain rows5 (by decide) (fun b h => (t5 b h).2) rd' (hLl _ (List.getElem_mem _)) (by rw [List.length_take]; omega) fun s6 T6 w6 rows6 t6 x6 => Ar.i64 (by omega) ⟨_, ?_, j + 1, T6, by omega, rfl, by omega, by rw [← take_snoc hj']; exact rows6, fun i h => ?_, x5.trans x6 fun i hi h => ?_⟩
    · omega
    · have z6 := x6.size
      rcases t6 i h with h | h
      · have := t5 i h; omega
      · omega
    · have := t5 i (by rw [h]; simp); omega
  have ej : L.take j = L := List.take_of_length_le (by omega)
  rw [ej] at rows5
  have q5 := q3.no x5
  refine regsNew_spec (p := ⟨d.b, 0, none⟩) (rows5.rdL hL.b8) (by omega) (fun l hl => by have := hLl l hl; omega) fun g w9 r9 fg x9 => ?_
  have z9 := x9.size
  refine ⟨fun w' => w' = w9, If.no (If.bne (fun h => absurd rfl h) fun _ => rfl), ?_⟩
  rintro _ w9 rfl
  have rows9 := rows5.no x9
  have linv := rows9.len
  have ntd : ∀ i, d.fp i → T i = none := fun i hi => Classical.byContradiction fun h => by have := t5 i h; have := q3.lt hi; omega
  have ntg : ∀ i, g.fp i → T i = none := fun i hi => Classical.byContradiction fun h => by have := t5 i h; have := fg i hi; omega
  have ntw : ∀ i, i < w.heap.size → T i = none := fun i hi => Classical.byContradiction fun h => by have := t5 i h; omega
  refine ⟨fun m t w11 => ∃ (i : Nat) (L' : List (List Int)), t = i ∧ m = L.length - i ∧ i ≤ L.length ∧ Rows w11.heap T 1 2 inv L' ∧ L'.map List.length = L.map List.length ∧ Ext (fun b => T b ≠ none) w9 w11, ⟨_, 0, L, rfl, rfl, Nat.zero_le _, rows9, rfl, Ext.refl _ _⟩, ?_⟩
  rintro _ m t w11 ⟨i, L1, rfl, rfl, hi, rows11, len11, x11⟩
  have ll1 : L1.length = L.length := by have := congrArg List.length len11; simpa using this
  refine If.dec (fun hlt => ?_) (fun hge2 => ?_)
  · refine rows11.ix (by decide) (by omega) hlt fun b o v hi' hb hc ov _ _ => ⟨v, hc, ?_⟩
    have lv := RdB.len ov.rd
    simp only [Int.toNat_natCast] at lv hi'
    have hvl : v.len ≤ 140737488351232 := by
      have : L1[i].length = L[i].length := by
        have := congrArg (fun l => l[i]?) len11
        simp [hi', show i < L.length by omega] at this
        exact this
      have := hLl _ (List.getElem_mem (show i < L.length by omega))
      omega
    refine ⟨fun m t w12 => ∃ (c : Nat) (L2 : List (List Int)), t = c ∧ m = v.len - c ∧ c ≤ v.len ∧ Rows w12.heap T 1 2 inv L2 ∧ L2.map List.length = L1.map List.length ∧ Ext (fun b => T b ≠ none) w9 w12, ⟨_, 0, L1, rfl, rfl, Nat.zero_le _, rows11, rfl, x11⟩, ?_⟩
    rintro _ m t w12 ⟨c, L2, rfl, rfl, hc2, rows12, len12, x12⟩
    have ll2 : L2.length = L1.length := by have := congrArg List.length len12; simpa using this
    refine If.dec (fun hlt2 => ?_) (fun _ => Ar.i64 (by omega) ⟨L.length - (i + 1), by omega, i + 1, L2, by omega, rfl, by omega, rows12, by rw [len12, len11], x12⟩)
    refine rows12.ix (by decide) (by omega) hlt fun b2 o2 v2 hi2 hb2 hc2' ov2 tv2 up2 => ⟨v2, hc2', ?_⟩
    have lv2 := RdB.len ov2.rd
    simp only [Int.toNat_natCast] at lv2 hi2 tv2 up2
    have e2 : L2[i].length = L1[i].length := by
      have := congrArg (fun l => l[i]?) len12
      simp [hi', hi2] at this
      exact this
    refine Ix.int ov2.rd (by omega) (by omega) fun b3 o3 hb3 hc3 => ⟨_, hc3, Nm.mk (St1.own ov2 (by omega) (by omega) rfl fun w13 o13 x13 _ => ?_)⟩
    rw [← List.map_set] at o13
    have rows13 := up2 w13 _ o13 x13
    refine Ar.i64 (by omega) ⟨v.len - (c + 1), by omega, c + 1, _, by omega, rfl, by omega, rows13, ?_, x12.trans x13 fun i _ h => by rw [tv2 i h]; simp⟩
    exact lens_set len12 hi2 (by simp)
  have q11 : DiskR w11.heap d (newD 8) := (q5.no x9).ext x11 fun i hi h => h (ntd i hi)
  have r11 := r9.ext x11 fun i hi h => h (ntg i hi)
  have x011 : Ext No w w11 := ((x03.no x5).no x9).trans x11 fun i hi h => h (ntw i hi)
  have z11 := x11.size
  refine refNew_spec (by omega) fun T1 r w14 r14 ft14 x14 => ?_
  rw [show (8 : Int).toNat = 8 from rfl] at r14
  have z14 := x14.size
  refine refRegsNew_spec (p := r.p) (hL.no (x011.no x14)) (by omega) hLl fun h w15 s15 fh15 x15 => ?_
  have f0 : QSt w d.b r.b g.rb h.rb 0 w15 d T1 r (newD 8) g h ⟨some ⟨d.b, 0, none⟩, limit, 0, 0, L⟩ := by
    have ltd : ∀ i, d.fp i → i < w3.heap.size := fun i hi => q3.lt hi
    have ltg : ∀ i, g.fp i → i < w9.heap.size := fun i hi => r9.lt hi
    have ltt : ∀ i, T1 i ≠ none → i < w14.heap.size := fun i hi => r14.old i hi
    refine ⟨⟨(q11.no x14).no x15, r14.no x15, fun i hi => Classical.byContradiction fun hh => ?_⟩, (r11.no x14).no x15, s15, rfl, rfl, rfl, rfl, rfl, fun i hi hh => ?_, fun i hi => Classical.byContradiction fun hh => ?_, fun i hi hh => ?_, fun i hi => Classical.byContradiction fun hh => ?_, fun i hi hh => ?_, fun i hi => ?_, fun i hi => ?_, fun i hi => ?_, fun i hi => ?_, (x011.no x14).no x15, by simp [newD], by simp [newD], by simp; omega⟩
    · have := ft14 i hh; have := ltd i hi; omega
    · have := fg i hi; have := ltd i hh; omega
    · have := ft14 i hh; have := ltg i hi; omega
    · have := fh15 i hi; have := ltd i hh; omega
    · have := fh15 i hi; have := ltt i hh; omega
    · have := fh15 i hh; have := ltg i hi; omega
    · have := fd i hi; omega
    · have := ft14 i hi; omega
    · have := fg i hi; omega
    · have := fh15 i hi; omega
  refine ⟨fun m t w16 => ∃ (j : Nat) (d1 : Dev) (T1 : Tg) (r1 : Dev) (D : DS) (g1 h1 : Rgs) (R : RS), t = j ∧ m = O.length - j ∧ j ≤ O.length ∧ QSt w d.b r.b g.rb h.rb j w16 d1 T1 r1 D g1 h1 R, ⟨_, 0, d, T1, r, _, g, h, _, rfl, rfl, Nat.zero_le _, f0⟩, ?_⟩
  rintro _ m t w16 ⟨j, d1, T2, r1, D, g1, h1, R, rfl, rfl, hj16, f⟩
  refine If.dec (fun hlt => ?_) (fun _ => kn f.x)
  have hj' : j < O.length := by omega
  have pd : d.p = d1.p := by simp [Dev.p, f.db]
  have pr : r.p = r1.p := by simp [Dev.p, f.rb]
  have pg : g.p = g1.p := by simp [Rgs.p, f.gb]
  have ph : h.p = h1.p := by simp [Rgs.p, f.hb]
  rw [pd, pr, pg, ph]
  have hst := f.st
  have hwt := f.wt
  have hrs := f.rs
  refine ⟨fun okv w25 => okv = true ∧ ∃ (d1 : Dev) (T1 : Tg) (r1 : Dev) (D : DS) (g1 h1 : Rgs) (R : RS), QSt w d.b r.b g.rb h.rb (j + 1) w25 d1 T1 r1 D g1 h1 R, ?_, ?_⟩
  · have key : ∀ {w' : World} {K : Addr → Prop}, Ext No w w' → (∀ b o, (∀ i v, (O[j].c)[i]? = some v → Cell w' ⟨b, o + i, none⟩ v) → b < w.heap.size → K ⟨b, o, none⟩) → Ix l.a l.len (j : Int) 8 K := fun x k =>
      Ix.elem hO (fun o _ => rfl) (by decide) (by omega) hlt fun b o hi2 hb hc => k b o (fun i v hv => (hc i v (by simpa using hv)).no x) (hc 0 _ rfl).lt
    have hok := ok _ (List.getElem_mem hj')
    generalize O[j] = op at key hok
    refine key f.x fun b o hc _ => ⟨op.kind, hc 0 _ rfl, If.beq (fun _ => ?_) (fun _ => If.beq (fun _ => ?_) (fun _ => If.beq (fun _ => ?_) (fun _ => ?_)))⟩
    · refine regsReserve_spec f.q f.p.q f.dev f.gd (by omega) hrs fun w7 q7 d7 x7 => ?_
      obtain ⟨s7, r7⟩ := f.s7 x7
      have e := reserve_dev R D r1.p
      refine refReserve_spec s7 r7 rfl f.ht (by omega) hrs fun w8 s8 r8 x8 => ?_
      rw [e] at s8 r8 ⊢
      refine If.beq (fun _ => ⟨by simp, d1, T2, r1, _, g1, h1, _, f.four q7 d7 x7 s8 r8 x8 (reserve_kept R D).1 (reserve_kept R D).2⟩) fun h => absurd rfl h
    · refine ⟨Ext (fun i => w.heap.size ≤ i) w16, (Ext.refl _ _).drew, key f.x fun b1 o1 hc1 lt1 => ⟨op.n, Held.but (hc1 1 _ rfl) (Nat.not_le.2 lt1), key f.x fun b2 o2 hc2 lt2 => ⟨op.n, Held.but (hc2 1 _ rfl) (Nat.not_le.2 lt2), ?_⟩⟩⟩
      have f' := f.no (Ext.refl No w16).drew
      refine regsAdvance_spec f'.q f'.p.q f'.dev f'.gd (by omega) fun w7 q7 d7 x7 => ?_
      have xx7 : Ext (fun i => w.heap.size ≤ i) w16 w7 := (x7.mono fun i _ h => by
        rcases h with h | h
        · exact f.fg i (.inl h)
        · exact f.fd i (.inl h)).drew_left
      obtain ⟨s7, r7⟩ := f'.s7 x7
      have e := advance_dev R D op.n r1.p
      refine ⟨xx7, refAdvance_spec s7 r7 rfl f.ht (by omega) fun w8 s8 r8 x8 => ?_⟩
      rw [e] at s8 r8 ⊢
      refine ⟨xx7.trans x8 fun i _ h => ?_, by simp, d1, T2, r1, _, g1, h1, _, f'.four q7 d7 x7 s8 r8 x8 (advance_kept R D _).1 (advance_kept R D _).2⟩
      rcases h with h | h
      · exact f.fh i (.inl h)
      · exact f.ft i (by rw [h, f.rbT]; simp)
    · refine key f.x fun b1 o1 hc1 _ => ⟨op.size, hc1 2 _ rfl, ?_⟩
      have none_ : ∀ {c : Int}, (∀ {K2 : Sl → Int → World → Prop}, K2 ⟨none, 0, 0⟩ c w16 → C_ref09_Regs_Draw h1.p op.size w16 K2) →
          Ix l.a l.len (j : Int) 8 fun a_9 => ∃ vv_8 : Int, Cell w16 (a_9.add 2) (.int .i64 vv_8) ∧ C_ref09_Regs_Draw h1.p vv_8 w16 fun r0_6 r1_5 w22 => C_ref01_Same ⟨none, 0, 0⟩ r0_6 w22 fun r_7 w23 => If r_7 (((c == r1_5) = true) ∧ ∃ (d1 : Dev) (T1 : Tg) (r1 : Dev) (D : DS) (g1 h1 : Rgs) (R : RS), QSt w d.b r.b g.rb h.rb (j + 1) w23 d1 T1 r1 D g1 h1 R) (false = true ∧ ∃ (d1 : Dev) (T1 : Tg) (r1 : Dev) (D : DS) (g1 h1 : Rgs) (R : RS), QSt w d.b r.b g.rb h.rb (j + 1) w23 d1 T1 r1 D g1 h1 R) := by
        intro c hh
        refine key f.x fun b1 o1 hc1 _ => ⟨op.size, hc1 2 _ rfl, hh (same_spec (l := []) (m := []) (Rd.nil _ _) (Rd.nil _ _) B8.nil B8.nil ?_)⟩
        rw [decide_eq_true rfl]
        exact If.yes ⟨by simp, d1, T2, r1, D, g1, h1, R, f.succ⟩
      refine regsDraw_spec f.q (fun h2 => none_ fun kk => refDraw_spec f.s (fun _ => kk) (fun h => absurd h h2) (fun _ _ h => absurd h h2) fun _ _ _ _ _ h => absurd h h2)
        (fun hz hd => none_ fun kk => refDraw_spec f.s (fun h => absurd hz h) (fun _ _ => kk) (fun l ls _ h => by rw [show ({ R with dev := r1.p } : RS).draws = [] from hd] at h; cases h) fun l ls _ _ _ _ h => by rw [show ({ R with dev := r1.p } : RS).draws = [] from hd] at h; cases h)
        (fun l0 ls0 hz hd hlt0 => none_ fun kk => refDraw_spec f.s (fun h => absurd hz h) (fun _ h => by rw [show ({ R with dev := r1.p } : RS).draws = l0 :: ls0 from hd] at h; cases h) (fun l ls _ h _ => kk) fun l ls _ _ _ _ h hle => by rw [show ({ R with dev := r1.p } : RS).draws = l0 :: ls0 from hd] at h; cases h; omega)
        fun l0 ls0 s8 g8 w8 hz hd hle wr8 r8 hg8 sub8 dis8 x8 z8 => ?_
      have x08 : Ext No w w8 := f.x.trans x8 fun i hi h => by have := f.fg i (.inl h); omega
      refine key x08 fun b2 o2 hc2 _ => ⟨op.size, hc2 2 _ rfl, ?_⟩
      have s8' := f.s.ext x8 fun i hi h => f.gh _ (.inl rfl) (by
        have h' : i = g1.rb := h
        rw [← h']; exact hi)
      have hd' : ({ R with dev := r1.p } : RS).draws = l0 :: ls0 := hd
      refine refDraw_spec s8' (fun h => absurd hz h) (fun _ h => by rw [hd'] at h; cases h) (fun l ls _ h hlt1 => by rw [hd'] at h; cases h; omega) fun l ls s9 h9 w9 _ hd9 _ rd9 q9 hh9 sub9 x9 => ?_
      rw [hd'] at hd9
      cases hd9
      have b80 : B8 l0 := f.q.b8 l0 (by rw [hd]; exact List.mem_cons_self)
      have wr9 := wr8.ext x9 fun i hi h => f.gh i (dis8 i hi).1 (.inl h)
      refine same_spec wr9.rd rd9 (b80.take _) (b80.take _) ?_
      rw [decide_eq_true rfl]
      have q8 := f.p.q.ext x8 fun i hi h => f.gd i (.inl h) hi
      have t8 := f.p.r.ext x8 fun i hi h => hi (f.gt i (.inl h))
      refine If.yes ⟨by simp, d1, T2, r1, D, g8, h9, { R with draws := ls0 }, ⟨q8.ext x9 fun i hi h => f.hd i (.inl h) hi, t8.ext x9 fun i hi h => hi (f.ht i (.inl h)), f.p.dis⟩, r8.ext x9 fun i hi h => f.gh i (sub8 i hi) (.inl h), q9, f.db, f.rb, hg8.trans f.gb, hh9.trans f.hb, f.dev, fun i hi => f.gd i (sub8 i hi), fun i hi => f.gt i (sub8 i hi), fun i hi => f.hd i (sub9 i hi), fun i hi => f.ht i (sub9 i hi), fun i hi h => f.gh i (sub8 i hi) (sub9 i h), f.fd, f.ft, fun i hi => f.fg i (sub8 i hi), fun i hi => f.fh i (sub9 i hi), x08.trans x9 fun i hi h => by have := f.fh i (.inl h); omega, by omega, by omega, f.rs⟩
    · refine key f.x fun b1 o1 hc1 _ => ⟨op.d.kind, hc1 3 _ rfl, If.bne (fun h9 => ?_) (fun _ => ⟨rfl, d1, T2, r1, D, g1, h1, R, f.succ⟩)⟩
      refine key f.x fun b2 o2 hc2 _ => ⟨op.d.kind, hc2 3 _ rfl, op.d.i, hc2 4 _ rfl, op.d.at_, hc2 5 _ rfl, op.d.b, hc2 6 _ rfl, op.d.masks, hc2 7 _ rfl, ?_⟩
      have far : ∀ {s : Sl} {bs : List Int}, RdB w.heap s bs → bs ≠ [] → ∀ i, s.blk = some i → ¬ d1.fp i ∧ T2 i = none := fun rd hne i hi => by
        have h1 := Rd.lt rd (by simpa using hne) hi
        exact ⟨fun h => by have := f.fd i h; omega, Classical.byContradiction fun h => by have := f.ft i h; omega⟩
      refine does_spec f.p (hok.d.no f.x) (far hok.d.rb) (far hok.d.rm) (by omega) (by omega) fun d2 T3 r2 D2 w14 n2 hb2 => ⟨rfl, d2, T3, r2, D2, g1, h1, R, f.next n2 (hb2 h9)⟩
  · rintro _ _ w25 ⟨rfl, d2, T3, r2, D2, g2, h2, R2, f2⟩
    have pd2 : d1.p = d2.p := by simp [Dev.p, f.db, f2.db]
    have pr2 : r1.p = r2.p := by simp [Dev.p, f.rb, f2.rb]
    have pg2 : g1.p = g2.p := by simp [Rgs.p, f.gb, f2.gb]
    have ph2 : h1.p = h2.p := by simp [Rgs.p, f.hb, f2.hb]
    rw [pd2, pr2, pg2, ph2]
    have es : (Ext No w25) (drewW w25) := (Ext.refl _ _).drew
    have q2 : DiskR (drewW w25).heap d2 D2 := f2.p.q
    have g2' : RegsR (drewW w25).heap g2 R2 := f2.q
    have lq := f2.s.len
    refine ⟨Ext No w25, es, If.no (Nn.mk ⟨_, Held.cell (Cell.lst f2.s.blk rfl), regsReserved_spec g2' ⟨es, If.bne (fun h => absurd rfl h) fun _ => Nn.mk ⟨_, Held.cell (Cell.lst f2.s.blk rfl), regsCommitted_spec g2' ⟨es, If.bne (fun h => absurd rfl h) fun _ => Nn.mk ⟨_, Held.cell (Cell.lst f2.s.blk rfl), regsLeft_spec g2' ⟨es, ?_⟩⟩⟩⟩⟩⟩)⟩
    refine If.bne (fun h => absurd (by rw [lq]) h) fun _ => Nn.mk ⟨_, Held.cell (Cell.lst f2.p.r.blk rfl), diskSteps_spec q2 ⟨es, If.bne (fun h => absurd rfl h) fun _ => Nn.mk ⟨_, Held.cell (Cell.lst f2.p.r.blk rfl), diskDown_spec q2 ⟨es, ?_⟩⟩⟩⟩
    have ed : (D2.down == D2.down) = true := by simp
    rw [ed]
    refine If.not (If.yes (Ar.i64 (by omega) ⟨O.length - (j + 1), by omega, j + 1, d2, T3, r2, D2, g2, h2, R2, by omega, rfl, by omega, f2.no es⟩))
end
end Go.Proofs.Ytdgebnphgfbegaa
