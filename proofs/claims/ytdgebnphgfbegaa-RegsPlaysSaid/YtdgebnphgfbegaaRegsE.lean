/- Layer 9: the document's registers in memory. -/
import Derived.Test.YtdgebnphgfbegaaDiskQ
namespace Go.V
theorem Cell.lt {w : World} {b o : Nat} {v : Value} (h : Cell w ⟨b, o, none⟩ v) : b < w.heap.size := hcell_lt (by rw [← cell_eq]; exact h)
theorem Cell.no {w w' : World} {b o : Nat} {v : Value} (h : Cell w ⟨b, o, none⟩ v) (x : Ext No w w') : Cell w' ⟨b, o, none⟩ v := by
  have h' : hcell w.heap b o = some v := by rw [← cell_eq]; exact h
  exact Cell.mk (by rw [hcell_congr (x.blk b (hcell_lt h') id)]; exact h')
end Go.V
namespace Go.Proofs.Ytdgebnphgfbegaa
open Go.V Go.V.Dk
structure GR (h : Array Obj) (g : Rgs) (R : RS) : Prop where
  blk : h[g.rb]? = some (.cells (regsC R g.sd).toArray T_donjonref09_Regs (0, 0))
  outer : Rd h g.sd 1 (g.ins.flatMap slC)
  old : ∀ i, g.fp i → i < h.size
  n : g.ins.length = R.draws.length
  inner : ∀ j (h1 : j < g.ins.length) (h2 : j < R.draws.length), RdB h g.ins[j] R.draws[j]
  b8 : ∀ l ∈ R.draws, B8 l
  n1 : g.sd.blk ≠ some g.rb
  n2 : ∀ s ∈ g.ins, s.blk ≠ some g.rb
section
variable {w w' : World} {g : Rgs} {R : RS} {T : Tg} {r : Dev} {D : DS}
theorem GR.len (q : GR w.heap g R) : g.sd.len = R.draws.length := by have := q.outer.len; rw [flat_len' slC_len, q.n] at this; omega
theorem GR.ext {S : Nat → Prop} (q : GR w.heap g R) (x : Ext S w w') (hS : ∀ i, g.fp i → ¬ S i) : GR w'.heap g R :=
  ⟨by rw [x.blk _ (blt q.blk) (hS _ (.inl rfl))]; exact q.blk, q.outer.ext x fun a b ha hb => hS b (.inr (.inl (by simp [Sl.blk, ha, hb]))), fun i hi => Nat.lt_of_lt_of_le (q.old i hi) x.size, q.n,
    fun j h1 h2 => (q.inner j h1 h2).ext x fun a b ha hb => hS b (.inr (.inr ⟨_, List.getElem_mem h1, by simp [Sl.blk, ha, hb]⟩)), q.b8, q.n1, q.n2⟩
theorem GR.no (q : GR w.heap g R) (x : Ext No w w') : GR w'.heap g R := q.ext x fun _ _ h => h
theorem GR.scal {res com : Int} (q : GR w.heap g R) (hw : Wrt w g.rb (.cells (regsC { R with reserved := res, committed := com } g.sd).toArray T_donjonref09_Regs (0, 0)) w') : GR w'.heap g { R with reserved := res, committed := com } :=
  ⟨hw.get q.blk, q.outer.ext hw.ext fun a b ha hb h => q.n1 (by simp [Sl.blk, ha, hb]; exact h), fun i hi => by rw [hw.size]; exact q.old i hi, q.n,
    fun j h1 h2 => (q.inner j h1 h2).ext hw.ext fun a b ha hb h => q.n2 _ (List.getElem_mem h1) (by simp [Sl.blk, ha, hb]; exact h), q.b8, q.n1, q.n2⟩
theorem refReserve_spec {K : Int → Int → World → Prop} (q : GR w.heap g R) (p : RefR w.heap T r D) (hd : R.dev = r.p) (dis : ∀ i, g.fp i → T i = none) (hs : 0 ≤ D.steps ∧ D.steps < 18446744073709551615) (hr : 0 ≤ R.reserved ∧ R.limit ≤ 18446744073709551615)
    (k : ∀ w', GR w'.heap g (reserveR R D).2.2.1 → RefR w'.heap T r (reserveR R D).2.2.2 → Ext (fun i => i = g.rb ∨ i = r.b) w w' → K (reserveR R D).1 (reserveR R D).2.1 w') : C_ref09_Regs_Reserve g.p w K := by
  apply S_ref09_Regs_Reserve
  have nrb : ¬ g.rb = r.b := fun h => by have := dis _ (.inl rfl); rw [h, p.hb] at this; cases this
  refine ⟨Ext No w, (Ext.refl _ _).drew, Nn.mk ⟨_, Held.cell (Cell.lst q.blk rfl), Nn.mk ⟨_, Held.cell (Cell.lst q.blk rfl), If.dec (fun h => ?_) (fun h => ?_)⟩⟩⟩
  · have e : reserveR R D = (0, 90, R, D) := by unfold reserveR; rw [if_pos h]
    rw [e] at k
    exact k (drewW w) q p (Ext.refl _ _).drew
  · have rd : GR (drewW w).heap g R := q
    have qd : RefR (drewW w).heap T r D := p
    refine Nn.mk ⟨R.dev, Cell.lst rd.blk rfl, ?_⟩
    rw [hd]
    refine refStep_spec qd hs fun w1 q1 x1 z1 => ?_
    have r1 := rd.ext x1 fun i hi h => by
      have h' : i = r.b := h
      have := dis i hi; rw [h', p.hb] at this; cases this
    have x1' : Ext (fun i => i = g.rb ∨ i = r.b) w w1 := (x1.mono fun i _ h => .inr h).drew_left
    refine If.bne (fun he => ?_) (fun he => ?_)
    · have e : reserveR R D = (0, (stepD D).1, R, (stepD D).2) := by unfold reserveR; rw [if_neg h, if_neg he]
      rw [e] at k; exact k w1 r1 q1 x1'
    · have e : reserveR R D = (R.reserved + 1, 0, { R with reserved := R.reserved + 1 }, (stepD D).2) := by unfold reserveR; rw [if_neg h, if_pos he]
      rw [e] at k
      refine Nn.mk ⟨_, Cell.lst r1.blk rfl, Ar.u64 (by omega) (Nn.mk (St1.mk r1.blk (by simp) rfl fun w2 hw2 => ?_))⟩
      have r2 : GR w2.heap g { R with reserved := R.reserved + 1, committed := R.committed } := r1.scal hw2
      have q2 := q1.ext hw2.ext fun i hi h => by
        have h' : i = g.rb := h
        exact hi (by rw [h']; exact dis _ (.inl rfl))
      exact Nn.mk ⟨_, Cell.lst r2.blk rfl, k w2 r2 q2 (x1'.trans hw2.ext fun i _ h => .inl h)⟩
theorem refAdvance_spec {n : Int} {K : Int → World → Prop} (q : GR w.heap g R) (p : RefR w.heap T r D) (hd : R.dev = r.p) (dis : ∀ i, g.fp i → T i = none) (hs : 0 ≤ D.steps ∧ D.steps < 18446744073709551615)
    (k : ∀ w', GR w'.heap g (advanceR R D n).2.1 → RefR w'.heap T r (advanceR R D n).2.2 → Ext (fun i => i = g.rb ∨ i = r.b) w w' → K (advanceR R D n).1 w') : C_ref09_Regs_Advance g.p n w K := by
  apply S_ref09_Regs_Advance
  refine ⟨fun w' => w' = w ∧ ¬ (n ≤ R.committed ∨ n > R.reserved), ?_, ?_⟩
  · have bad : (n ≤ R.committed ∨ n > R.reserved) → K 2 w := fun h => by
      have e : advanceR R D n = (2, R, D) := by unfold advanceR; rw [if_pos h]
      rw [e] at k; exact k w q p (Ext.refl _ _)
    exact Nn.mk ⟨_, Cell.lst q.blk rfl, If.dec (fun h => bad (.inl h)) (fun h => Nn.mk ⟨_, Cell.lst q.blk rfl, If.dec (fun h1 => bad (.inr h1)) (fun h1 => ⟨rfl, by omega⟩)⟩)⟩
  · rintro _ w0 ⟨rfl, h⟩
    refine Nn.mk ⟨R.dev, Cell.lst q.blk rfl, ?_⟩
    rw [hd]
    refine refStep_spec p hs fun w1 q1 x1 z1 => ?_
    have r1 := q.ext x1 fun i hi h => by
      have h' : i = r.b := h
      have := dis i hi; rw [h', p.hb] at this; cases this
    have x1' : Ext (fun i => i = g.rb ∨ i = r.b) w0 w1 := x1.mono fun i _ h => .inr h
    refine If.beq (fun he => ?_) (fun he => ?_)
    · have e : advanceR R D n = (0, { R with committed := n }, (stepD D).2) := by unfold advanceR; rw [if_neg h, if_pos he]
      rw [e] at k
      refine Nn.mk (St1.mk r1.blk (by simp) rfl fun w2 hw2 => ?_)
      rw [he]
      exact k w2 (r1.scal (res := R.reserved) hw2) (q1.ext hw2.ext fun i hi h => by
        have h' : i = g.rb := h
        exact hi (by rw [h']; exact dis _ (.inl rfl))) (x1'.trans hw2.ext fun i _ h => .inl h)
    · have e : advanceR R D n = ((stepD D).1, R, (stepD D).2) := by unfold advanceR; rw [if_neg h, if_neg he]
      rw [e] at k; exact k w1 r1 q1 x1'
theorem refDraw_spec {size : Int} {K : Sl → Int → World → Prop} (q : GR w.heap g R) (k2 : ¬ (1 ≤ size ∧ size ≤ 64) → K ⟨none, 0, 0⟩ 2 w) (k9 : 1 ≤ size ∧ size ≤ 64 → R.draws = [] → K ⟨none, 0, 0⟩ 91 w)
    (k91 : ∀ l ls, 1 ≤ size ∧ size ≤ 64 → R.draws = l :: ls → (l.length : Int) < size → K ⟨none, 0, 0⟩ 91 w)
    (k : ∀ l ls s g' w', 1 ≤ size ∧ size ≤ 64 → R.draws = l :: ls → size ≤ (l.length : Int) → RdB w'.heap s (l.take size.toNat) → GR w'.heap g' { R with draws := ls } → g'.rb = g.rb → (∀ i, g'.fp i → g.fp i) → Ext (· = g.rb) w w' → K s 0 w') : C_ref09_Regs_Draw g.p size w K := by
  apply S_ref09_Regs_Draw
  have hlen := q.len
  have hn := q.n
  refine ⟨fun w' => w' = w ∧ 1 ≤ size ∧ size ≤ 64, If.dec (fun h => k2 (by omega)) (fun h => If.dec (fun h1 => k2 (by omega)) (fun h1 => ⟨rfl, by omega, by omega⟩)), ?_⟩
  rintro _ w1 ⟨rfl, hsz⟩
  cases hd : R.draws with
  | nil =>
    refine ⟨fun _ => False, ?_, fun _ _ h => h.elim⟩
    rw [hd] at hlen
    exact Nn.mk ⟨g.sd, Cell.lst q.blk rfl, If.beq (fun _ => k9 hsz hd) (fun h => by simp at hlen; omega)⟩
  | cons l ls =>
    rw [hd] at hlen hn
    simp only [List.length_cons] at hlen hn
    have hins : 0 < g.ins.length := by omega
    obtain ⟨rb, sd, ins⟩ := g
    cases ins with
    | nil => simp at hins
    | cons s0 ins =>
    simp only at *
    have hn' : ins.length = ls.length := by simp only [List.length_cons] at hn; omega
    have inner0 := q.inner 0 (by simp) (by rw [hd]; simp)
    simp only [List.getElem_cons_zero] at inner0
    have e0 : R.draws[0]'(by rw [hd]; simp) = l := by simp [hd]
    rw [e0] at inner0
    have l0 : s0.len = l.length := RdB.len inner0
    have hix : ∀ {K : Addr → Prop}, (∀ b o, Cell w1 ⟨b, o, none⟩ s0.v → K ⟨b, o, none⟩) → Ix sd.a sd.len 0 1 K := fun kk =>
      Ix.elem q.outer slC_len (by decide) (by omega) (by omega) fun b o hi hb hc => kk b o (by have := hc 0 s0.v (by simp [slC]); simpa using this)
    refine ⟨fun w' => w' = w1 ∧ size ≤ (l.length : Int), ?_, ?_⟩
    · refine Nn.mk ⟨sd, Cell.lst q.blk rfl, If.beq (fun h => by omega) (fun _ => Nn.mk ⟨sd, Cell.lst q.blk rfl, hix fun b o hc => ⟨s0, hc, If.dec (fun h => k91 l ls hsz hd (by omega)) (fun h => ⟨rfl, by omega⟩)⟩⟩)⟩
    · rintro _ w2 ⟨rfl, hle⟩
      refine Nn.mk ⟨sd, Cell.lst q.blk rfl, hix fun b o hc => ⟨s0, hc, RdB.cut0 inner0 (by omega) hle fun s1 rd1 => copy_spec rd1 (by rw [List.length_take]; omega) fun s3 w3 o3 x3 => ?_⟩⟩
      have q3 := q.no x3
      have hcapd := q.outer.cap
      simp only at hcapd
      refine Nn.mk ⟨sd, Cell.lst q3.blk rfl, Cut.mk (by omega) (by omega) (by omega) (by omega) ?_⟩
      have cut := Rd.cut q3.outer (lo := 1) (hi := sd.len) (mx := sd.cap) (by omega) (Nat.le_refl _) hcapd
      have ec : (((s0 :: ins).flatMap slC).drop (1 * 1)).take ((sd.len - 1) * 1) = ins.flatMap slC := by
        have : ((s0 :: ins).flatMap slC).drop (1 * 1) = ins.flatMap slC := by simp [slC]
        rw [this]
        exact List.take_of_length_le (by rw [flat_len' slC_len]; omega)
      rw [ec] at cut
      have e1 : ((sd.len : Int) - 1).toNat = sd.len - 1 := by omega
      have e2 : ((sd.cap : Int) - 1).toNat = sd.cap - 1 := by omega
      have e3 : ((sd.cap : Int)).toNat = sd.cap := by omega
      have e4 : (1 : Int).toNat = 1 := rfl
      rw [e1, e2, e3, e4]
      have hblk : ∀ i, (⟨cutA sd.a sd.cap 1 1, sd.len - 1, sd.cap - 1⟩ : Sl).blk = some i → sd.blk = some i := fun i hi => by
        simp only [Sl.blk] at hi ⊢
        unfold cutA at hi
        split at hi
        · exact hi
        · cases ha : sd.a with
          | none => rw [ha] at hi; simp at hi
          | some a =>
            rw [ha] at hi
            simp only [Option.map_some, Option.some.injEq] at hi ⊢
            rw [← hi]; rfl
      generalize (⟨cutA sd.a sd.cap 1 1, sd.len - 1, sd.cap - 1⟩ : Sl) = sd' at *
      refine Nn.mk (St1.mk q3.blk (by simp) rfl fun w4 hw4 => ?_)
      have hsub : ∀ i, (⟨rb, sd', ins⟩ : Rgs).fp i → (⟨rb, sd, s0 :: ins⟩ : Rgs).fp i := fun i hi => by
        rcases hi with h | h | ⟨s, hs, h⟩
        · exact .inl h
        · exact .inr (.inl (hblk i h))
        · exact .inr (.inr ⟨s, List.mem_cons_of_mem _ hs, h⟩)
      have hrb := blt q.blk
      refine k l ls s3 ⟨rb, sd', ins⟩ w4 hsz hd hle ?_ ?_ rfl hsub ((x3.of_no).trans hw4.ext fun _ _ h => h)
      · refine o3.rd.ext hw4.ext fun a b ha hb h => ?_
        have := (o3.lt (b := b) (by simp [Sl.blk, ha, hb])).1
        have h' : b = rb := h
        simp only at hrb
        omega
      · refine ⟨hw4.get q3.blk, cut.ext hw4.ext fun a b ha hb h => q.n1 (hblk _ (by simp [Sl.blk, ha, hb]; exact h)), fun i hi => by rw [hw4.size]; exact q3.old i (hsub i hi), by simp only; omega, fun j h1 h2 => ?_, fun x hx => q.b8 x (by rw [hd]; exact List.mem_cons_of_mem _ hx), fun h => q.n1 (hblk _ h), fun s hs => q.n2 s (List.mem_cons_of_mem _ hs)⟩
        have inn := q3.inner (j + 1) (by simpa using h1) (by rw [hd]; simpa using h2)
        simp only [List.getElem_cons_succ, hd] at inn
        exact inn.ext hw4.ext fun a b ha hb h => q.n2 _ (List.mem_cons_of_mem _ (List.getElem_mem h1)) (by simp [Sl.blk, ha, hb]; exact h)
/-- A list of copies. -/
theorem Rows.rdL {h : Array Obj} {ko kr : Nat} {s : Sl} {L : List (List Int)} (q : Rows h T ko kr s L) (b8 : ∀ l ∈ L, B8 l) : RdL h s L := by
  obtain ⟨ins, a, n, c⟩ := q.ex
  exact ⟨⟨ins, a.rd, n, fun j h1 h2 => (c j h1 h2).1.rd⟩, b8⟩
theorem Rows.nil (h : Array Obj) (T : Tg) (ko kr : Nat) : Rows h T ko kr ⟨none, 0, 0⟩ [] := ⟨⟨[], Own.nil _ _ _ _, rfl, fun j h1 => by simp at h1⟩, fun b hb => by simp [Sl.blk] at hb⟩
theorem take_snoc {L : List (List Int)} {j : Nat} (h : j < L.length) : L.take j ++ [L[j]] = L.take (j + 1) := (List.take_succ_eq_append_getElem h).symm
/-- One more copy is appended. -/
theorem appCopy {s v : Sl} {L : List (List Int)} {l : List Int} {ko kr : Nat} {Q : World → World → Prop} {K : Sl → World → Prop} (q : Rows w.heap T ko kr s L) (hk : ko ≠ kr) (old : ∀ b, T b ≠ none → b < w.heap.size) (rd : RdB w.heap v l) (hl : l.length ≤ 140737488351232) (hL : L.length ≤ 4294967296)
    (hQ : ∀ {w1}, Ext (fun b => T b = some (ko, 0)) w w1 → Q w w1)
    (k : ∀ s' T' w', Rows w'.heap T' ko kr s' (L ++ [l]) → (∀ b t, T b = some t → T' b = some t) → (∀ b, T' b ≠ none → T b ≠ none ∨ (w.heap.size ≤ b ∧ b < w'.heap.size)) → Ext (fun b => T b = some (ko, 0)) w w' → K s' w') :
    C_ref01_Copy v (drewW w) fun r w4 => Q w w4 ∧ NewW w4 (.cells [.slice r.a r.len r.cap].toArray 23) fun b_1 w5 => Q w w5 ∧ AppW Try.prog 49 49 s (.slice (some (Addr.mk b_1 0 none)) 1 1) (fun s w6 => Q w w6 ∧ K s w6) w5 := by
  refine copy_spec (w := drewW w) rd (by omega) fun v4 w4 o4 x4 => ?_
  have x4 : Ext No w w4 := x4.drew_left
  have o4 : OwnB w4.heap w.heap.size v4 l := o4
  refine ⟨hQ x4.of_no, fun b5 w5 n5 => ⟨hQ (x4.no n5.ext).of_no, ?_⟩⟩
  have x5 := x4.no n5.ext
  have z5 := n5.size
  have z4 := x4.size
  have c5 : Rd w5.heap ⟨some ⟨b5, 0, none⟩, 1, 1⟩ 1 [v4.v] := (Own.new (sz := 1) (n := 1) n5 rfl (by simp [oneC])).rd
  -- the new block's tag
  let T5 : Tg := fun i => if v4.blk = some i then some (kr, L.length) else T i
  have hn : ∀ b, v4.blk = some b → T b = none := fun b hb => Classical.byContradiction fun h => by have := old b h; have := (o4.lt hb).1; omega
  have hT : ∀ b t, T b = some t → T5 b = some t := fun b t h => by
    show (if v4.blk = some b then some (kr, L.length) else T b) = some t
    rw [if_neg (fun e => by rw [hn b e] at h; cases h)]; exact h
  have hT5 : ∀ b, T5 b ≠ none → T b ≠ none ∨ v4.blk = some b := fun b h => by
    by_cases e : v4.blk = some b
    · exact .inr e
    · left
      have : T5 b = T b := if_neg e
      rw [← this]; exact h
  refine ((q.no x5).tags hT).app hk ((o4.mono (Nat.zero_le _)).no n5.ext) (fun b h => if_pos h) (fun b h => ?_) c5 hL fun s6 T6 w6 rows6 t6 t6' x6 => ?_
  · rcases hT5 b h with h | h
    · have := old b h; omega
    · have := (o4.lt h).2; omega
  · have x6' : Ext (fun b => T b = some (ko, 0)) w5 w6 := x6.mono fun i _ h => by
      by_cases e : v4.blk = some i
      · have : T5 i = some (kr, L.length) := if_pos e
        rw [this] at h
        simp only [Option.some.injEq, Prod.mk.injEq] at h; exact absurd h.1.symm hk
      · have : T5 i = T i := if_neg e
        rw [← this]; exact h
    have xw : Ext (fun b => T b = some (ko, 0)) w w6 := x5.of_no.trans x6' fun _ _ h => h
    have z6 := x6.size
    refine ⟨hQ xw, k s6 T6 w6 rows6 (fun b t h => t6 _ _ (hT _ _ h)) (fun b h => ?_) xw⟩
    rcases t6' b h with h | h
    · rcases hT5 b h with h | h
      · exact .inl h
      · have := o4.lt h; right; omega
    · right; omega
theorem refRegsNew_spec {p : Option Addr} {limit : Int} {draws : Sl} {L : List (List Int)} {K : Option Addr → World → Prop} (hL : RdL w.heap draws L) (hn : L.length ≤ 4294967296) (hl : ∀ l ∈ L, l.length ≤ 140737488351232)
    (k : ∀ g w', GR w'.heap g ⟨p, limit, 0, 0, L⟩ → (∀ i, g.fp i → w.heap.size ≤ i) → Ext No w w' → K g.p w') : C_ref09_New p limit draws w K := by
  apply S_ref09_New
  have hdl := hL.len
  intro b w1 n1
  refine ⟨rfl, _, _, _, n1.get, rfl, by simp, .inr (.inr (Nat.le_refl _)), fun v hv => by simp at hv; rcases hv with rfl | rfl | rfl | rfl <;> rfl, fun w2 hw2 => ?_⟩
  have hb2 : w2.heap[b]? = some (.cells (regsC ⟨p, limit, 0, 0, []⟩ ⟨none, 0, 0⟩).toArray T_donjonref09_Regs (0, 0)) := hw2.get n1.get
  have a1 := n1.at_
  have z1 := n1.size
  have z2 := hw2.size
  have x2 : Ext No w w2 := n1.ext.trans hw2.ext fun i hi h => by
    have h' : i = b := h
    omega
  refine ⟨fun m i w3 => ∃ (j : Nat) (T : Tg) (sd : Sl), i = j ∧ m = L.length - j ∧ j ≤ L.length ∧ w3.heap[b]? = some (.cells (regsC ⟨p, limit, 0, 0, []⟩ sd).toArray T_donjonref09_Regs (0, 0)) ∧ Rows w3.heap T 1 2 sd (L.take j) ∧ (∀ i, T i ≠ none → w2.heap.size ≤ i ∧ i < w3.heap.size) ∧ Ext No w w3,
    ⟨_, 0, fun _ => none, ⟨none, 0, 0⟩, rfl, rfl, Nat.zero_le _, hb2, Rows.nil _ _ _ _, fun i h => absurd rfl h, x2⟩, ?_⟩
  rintro _ m i w3 ⟨j, T, sd, rfl, rfl, hj, hb3, rows3, t3, x3⟩
  have nT : T b = none := Classical.byContradiction fun h => by have := t3 b h; omega
  refine If.dec (fun hlt => ?_) (fun hge => ?_)
  · have hj' : j < L.length := by omega
    refine ⟨Ext (fun b => T b = some (1, 0)) w3, (Ext.refl _ _).drew, sd, Held.but (Cell.lst hb3 rfl) (fun h => by rw [nT] at h; cases h), hL.ix (by omega) hlt fun b4 o4 v hi hc rd => ⟨v, Held.but (hc.no x3) (fun h => ?_), ?_⟩⟩
    · have h4 := t3 b4 (by rw [h]; simp)
      have := hc.lt
      omega
    · have rd' : RdB w3.heap v L[j] := by have := rd.no x3; simpa using this
      refine appCopy (Q := Ext (fun b => T b = some (1, 0))) rows3 (by decide) (fun b h => (t3 b h).2) rd' (hl _ (List.getElem_mem _)) (by rw [List.length_take]; omega) (fun x => x) fun s6 T6 w6 rows6 t6 t6' x6 => ?_
      have hb6 : w6.heap[b]? = some (.cells (regsC ⟨p, limit, 0, 0, []⟩ sd).toArray T_donjonref09_Regs (0, 0)) := by rw [x6.blk _ (blt hb3) (fun h => by rw [nT] at h; cases h)]; exact hb3
      have z3 := x3.size
      have z6 := x6.size
      have t6b : ∀ i, T6 i ≠ none → w2.heap.size ≤ i ∧ i < w6.heap.size := fun i h => by
        rcases t6' i h with h | h
        · have := t3 i h; omega
        · have := blt hb3; omega
      refine St1.mk hb6 (by simp) rfl fun w7 hw7 => Ar.i64 (by omega) ⟨_, ?_, j + 1, T6, s6, by omega, rfl, by omega, hw7.get hb6, ?_, fun i h => ?_, ?_⟩
      · omega
      · rw [← take_snoc hj']
        have nb : ∀ i t, T6 i = some t → ¬ i = b := fun i t h e => by have := t6b i (by rw [h]; simp); omega
        exact rows6.ext hw7.ext (fun i h => nb i _ h) fun i j h => nb i _ h
      · rw [hw7.size]; exact t6b i h
      · refine (x3.trans x6 fun i hi h => ?_).trans hw7.ext fun i hi h => ?_
        · have := t3 i (by rw [h]; simp); omega
        · have h' : i = b := h
          omega
  · have ej : L.take j = L := List.take_of_length_le (by omega)
    rw [ej] at rows3
    obtain ⟨ins, a, n, c⟩ := rows3.ex
    have hfp : ∀ i, (⟨b, sd, ins⟩ : Rgs).fp i → i = b ∨ T i ≠ none := fun i hi => by
      rcases hi with h | h | ⟨s, hs, h⟩
      · exact .inl h
      · exact .inr (by rw [rows3.tag i h]; simp)
      · obtain ⟨q, hq, rfl⟩ := List.getElem_of_mem hs
        simp only at hq
        exact .inr (by rw [(c q hq (by omega)).2 i h]; simp)
    have hbl := blt hb3
    refine k ⟨b, sd, ins⟩ w3 ⟨hb3, a.rd, fun i hi => ?_, n, fun q h1 h2 => (c q h1 h2).1.rd, hL.b8, fun h => ?_, fun s hs h => ?_⟩ (fun i hi => ?_) x3
    · rcases hfp i hi with h | h
      · omega
      · exact (t3 i h).2
    · rw [rows3.tag b h] at nT; cases nT
    · obtain ⟨q, hq, rfl⟩ := List.getElem_of_mem hs
      simp only at hq
      rw [(c q hq (by omega)).2 b h] at nT; cases nT
    · rcases hfp i hi with h | h
      · omega
      · have := t3 i h; omega
end
end Go.Proofs.Ytdgebnphgfbegaa
