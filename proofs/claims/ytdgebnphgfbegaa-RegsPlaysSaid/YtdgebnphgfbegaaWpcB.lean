/- Soundness of what is computed of code. -/
import Derived.Test.YtdgebnphgfbegaaWpc
namespace Go.V
section sound
variable {P : Program} {n : Nat}
def FrM (M : Nat → Bool) (ρ ρ' : Env) : Prop := ∀ mask, M mask = true → ∀ t, Nat.testBit mask t = false → ρ' t = ρ t
theorem FrM.refl (M : Nat → Bool) (ρ : Env) : FrM M ρ ρ := fun _ _ _ _ => rfl
theorem FrM.trans {M : Nat → Bool} {a b c : Env} (h : FrM M a b) (k : FrM M b c) : FrM M a c := fun m hm t ht => (k m hm t ht).trans (h m hm t ht)
theorem FrM.mono {M M' : Nat → Bool} {a b : Env} (h : FrM M a b) (hm : ∀ m, M' m = true → M m = true) : FrM M' a b := fun m hm' t ht => h m (hm m hm') t ht
theorem FrM.putO {M : Nat → Bool} {ρ : Env} {d : Option Nat} (h : ∀ m, M m = true → maskO m d = true) (v : Value) : FrM M ρ (putO ρ d v) := by
  intro m hm t ht
  cases d with
  | none => rfl
  | some d =>
    have := h m hm
    simp only [maskO] at this
    refine put_ne _ _ fun e => ?_
    subst e; rw [ht] at this; cases this
theorem put_eq {ρ : Env} {d : Nat} {v : Value} (h : ρ d = v) : put ρ d v = ρ := by
  funext t
  by_cases e : t = d
  · subst e; rw [put_same, h]
  · exact put_ne _ _ e
def wantedE (ops : Array Oper) (o : Oper) (ρ : Env) : Bool :=
  Region.wanted o (fun j => match (ops[j]?).bind (·.dst) with
    | some d => match ρ d with
      | .bool b => some b
      | _ => none
    | none => none)
theorem Rep.wanted {a : Act} {ρ : Env} (h : Rep n a ρ) (ops : Array Oper) (o : Oper) : Region.wanted o (yielded ops a.tmps) = wantedE ops o ρ := by
  unfold wantedE
  congr 1
  funext j
  unfold yielded
  cases hd : (ops[j]?).bind (·.dst) with
  | none => rfl
  | some d =>
    simp only [Option.bind_some]
    have hg := h.get d
    rcases Nat.lt_or_ge d a.tmps.size with hlt | hge
    · have : a.tmps[d]? = some (ρ d) := by
        rw [← hg]; simp [hlt]
      rw [this]
      cases ρ d <;> rfl
    · have e1 : a.tmps[d]? = none := by simp [hge]
      have e2 : ρ d = undef := by rw [← hg]; simp [e1]
      rw [e1, e2]; rfl
theorem gW_sound {ops : Array Oper} {o : Oper} {ρ : Env} {A B : Prop} (h : gW ops o ρ A B) : (wantedE ops o ρ = true ∧ A) ∨ (wantedE ops o ρ = false ∧ B) := by
  unfold gW at h
  unfold wantedE Region.wanted
  cases hg : o.guard with
  | none => rw [hg] at h; exact .inl ⟨rfl, h⟩
  | some gw =>
    obtain ⟨j, want⟩ := gw
    simp only [hg] at h ⊢
    cases hd : (ops[j]?).bind (·.dst) with
    | none => rw [hd] at h; exact .inr ⟨rfl, h⟩
    | some d =>
      simp only [hd] at h ⊢
      split at h
      · rename_i b hb
        simp only [hb]
        cases want <;> cases b <;> simp only [cond_true, cond_false] at h
        · exact .inl ⟨rfl, h⟩
        · exact .inr ⟨rfl, h⟩
        · exact .inr ⟨rfl, h⟩
        · exact .inl ⟨rfl, h⟩
      · rename_i hne
        refine .inr ⟨?_, h⟩
        cases hv : ρ d <;> first | rfl | exact absurd hv (hne _)
theorem splitW_sound {g : Bool} {v : Value} {K : Value → Prop} (h : splitW g v K) : K v := by
  unfold splitW at h
  cases g with
  | false => exact h
  | true =>
    simp only [cond_true] at h
    split at h
    · rename_i b
      cases b
      · exact h.out.2 rfl
      · exact h.out.1 rfl
    · exact h
theorem opok_wp {o : Oper} {a : Act} {w : World} {K : Value → World → Prop} {next : Act → World → Prop} {Q : Exit → Act → World → Prop} (h : OpOk P o a.eval K w)
    (hk : ∀ v w', K v w' → next (a.put o.dst v) w') : o.wp P a w next Q := by
  unfold OpOk at h
  unfold Oper.wp
  generalize (execOp a.eval o).run P w = r at h
  split at h
  · exact hk _ _ h
  · exact hk _ _ h
  · exact Calls.mono h fun e w'' ⟨v, he, hv⟩ => by subst he; exact hk _ _ hv
  · exact h.elim
theorem seqW_sound {ops : Array Oper} {M : Nat → Bool} {Q : Exit → Env → World → Prop} {ρ0 : Env} : ∀ (l pre : List Oper) (ρ : Env) (w : World) (a : Act), ops.toList = pre ++ l →
    (∀ o ∈ l, dstOk n o.dst = true) → (∀ o ∈ l, ∀ m, M m = true → maskO m o.dst = true) → seqW P ops pre.length l ρ (Q .normal) w → Rep n a ρ → FrM M ρ0 ρ →
    wpOps P ops (fun e a' w' => ∃ ρ', Rep n a' ρ' ∧ Q e ρ' w' ∧ FrM M ρ0 ρ') (List.range' pre.length l.length) a w
  | [], pre, ρ, w, a, _, _, _, h, hr, hf => ⟨ρ, hr, h, hf⟩
  | o :: l, pre, ρ, w, a, he, hd, hm, h, hr, hf => by
    have hi : ops[pre.length]? = some o := by rw [← Array.getElem?_toList, he]; simp
    have next : ∀ v w', seqW P ops (pre.length + 1) l (putO ρ o.dst v) (Q .normal) w' → wpOps P ops (fun e a' w' => ∃ ρ', Rep n a' ρ' ∧ Q e ρ' w' ∧ FrM M ρ0 ρ') (List.range' (pre.length + 1) l.length) (a.put o.dst v) w' := fun v w' h' => by
      have := seqW_sound (ops := ops) l (pre ++ [o]) (putO ρ o.dst v) w' (a.put o.dst v) (by simp [he]) (fun x hx => hd x (by simp [hx])) (fun x hx => hm x (by simp [hx])) (by simpa using h') (hr.putO (hd o (by simp)) v) (hf.trans (.putO (hm o (by simp)) v))
      simpa using this
    simp only [List.length_cons, List.range'_succ, wpOps, hi, hr.wanted]
    rcases gW_sound h with ⟨hw, hA⟩ | ⟨hw, hB⟩
    · rw [if_pos hw]
      refine .inl (opok_wp (K := fun v w' => splitW (isG ops pre.length) v fun v => seqW P ops (pre.length + 1) l (putO ρ o.dst v) (Q .normal) w') ?_ fun v w' h' => next v w' (splitW_sound (K := fun v => seqW P ops (pre.length + 1) l (putO ρ o.dst v) (Q .normal) w') h'))
      rw [hr.eval]; exact opW_sound hA
    · rw [if_neg (by simp [hw])]
      exact next _ _ hB
theorem actW_sound {ops : Array Oper} {M : Nat → Bool} {ρ0 : Env} {S : World → Prop} {i : Nat} {next : Env → World → Prop} {ρ : Env} {w : World} {a : Act} {K' : Act → World → Prop} {Q : Exit → Act → World → Prop}
    (hd : ∀ o ∈ ops.toList, dstOk n o.dst = true) (hm : ∀ o ∈ ops.toList, ∀ m, M m = true → maskO m o.dst = true) (h : actW P ops S i next ρ w) (hS : S w) (hr : Rep n a ρ) (hf : FrM M ρ0 ρ)
    (hk : ∀ ρ' a' w', S w' → next ρ' w' → Rep n a' ρ' → FrM M ρ0 ρ' → K' a' w') : wpOp P ops Q i (fun a' w' => (S w' ∨ lastB ops i = true) ∧ K' a' w') a w := by
  unfold actW at h
  split at h
  · rename_i o ho
    have hmem : o ∈ ops.toList := by
      have : o ∈ ops := Array.mem_of_getElem? ho
      simpa using this
    unfold wpOp
    simp only [ho, hr.wanted]
    rcases gW_sound h with ⟨hw, hA⟩ | ⟨hw, hB⟩
    · rw [if_pos hw]
      refine .inl (opok_wp (K := fun v w' => S w' ∧ splitW (isG ops i) v fun v => next (putO ρ o.dst v) w') ?_ fun v w' h' => ⟨.inl h'.1, hk _ _ _ h'.1 (splitW_sound (K := fun v => next (putO ρ o.dst v) w') h'.2) (hr.putO (hd o hmem) v) (hf.trans (.putO (hm o hmem) v))⟩)
      rw [hr.eval]; exact opW_sound hA
    · rw [if_neg (by simp [hw])]
      exact ⟨.inl hS, hk _ _ _ hS hB (hr.putO (hd o hmem) undef) (hf.trans (.putO (hm o hmem) undef))⟩
  · exact h.elim
theorem planW_sound {ops : Array Oper} {M : Nat → Bool} {Q : Exit → Env → World → Prop} {ρ0 : Env} {S : World → Prop} (hd : ∀ o ∈ ops.toList, dstOk n o.dst = true)
    (hm : ∀ o ∈ ops.toList, ∀ m, M m = true → maskO m o.dst = true) (hns : Region.noSelect ops = true) (hQ : ∀ c ρ w, ¬ Q (.panic c) ρ w) : ∀ (p : Plan) (f : Nat) (li : Array Bool) (ρ : Env) (w : World) (a : Act),
    planOk ops p f li = true → planW P ops S p ρ (Q .normal) w → S w → Closed ops li → Rep n a ρ → FrM M ρ0 ρ →
    wpAnyL P ops (fun e a' w' => ∃ ρ', Rep n a' ρ' ∧ Q e ρ' w' ∧ FrM M ρ0 ρ') S f li a w := by
  intro p
  induction p with
  | fin =>
    intro f li ρ w a hp h hS hcl hr hf
    simp only [planOk, List.isEmpty_iff] at hp
    exact wpAnyL_done hp ⟨ρ, hr, h, hf⟩ f
  | last i =>
    intro f li ρ w a hp h hS hcl hr hf
    cases f with
    | zero => simp [planOk] at hp
    | succ f =>
      simp only [planOk, Bool.and_eq_true, beq_iff_eq, List.isEmpty_iff] at hp
      refine wpAnyL_all hp.1.1 (by simp) fun j hj => ?_
      simp only [List.mem_singleton] at hj
      subst hj
      simp only [planW] at h
      split at h
      · rename_i o ho
        have hmem : o ∈ ops.toList := by
          have : o ∈ ops := Array.mem_of_getElem? ho
          simpa using this
        unfold wpOp
        simp only [ho, hr.wanted]
        rcases gW_sound h with ⟨hw, hA⟩ | ⟨hw, hB⟩
        · rw [if_pos hw]
          refine .inl (opok_wp (K := fun v w' => splitW (isG ops j) v fun v => Q .normal (putO ρ o.dst v) w') ?_ fun v w' h' => ⟨.inr hp.1.2, wpAnyL_done hp.2 ⟨_, hr.putO (hd o hmem) v, splitW_sound (K := fun v => Q .normal (putO ρ o.dst v) w') h', hf.trans (.putO (hm o hmem) v)⟩ f⟩)
          rw [hr.eval]; exact opW_sound hA
        · rw [if_neg (by simp [hw])]
          exact ⟨.inr hp.1.2, wpAnyL_done hp.2 ⟨_, hr.putO (hd o hmem) undef, hB, hf.trans (.putO (hm o hmem) undef)⟩ f⟩
      · exact h.elim
  | take i r ih =>
    intro f li ρ w a hp h hS hcl hr hf
    cases f with
    | zero => simp [planOk] at hp
    | succ f =>
      simp only [planOk, Bool.and_eq_true] at hp
      obtain ⟨⟨h1, h2⟩, h3⟩ := hp
      simp only [planW] at h
      split at h
      · rename_i o ho
        have hmem : o ∈ ops.toList := by
          have : o ∈ ops := Array.mem_of_getElem? ho
          simpa using this
        have fin : ∀ v, YieldsIf P ops S o v a → planW P ops S r (putO ρ o.dst v) (Q .normal) w → wpAnyL P ops (fun e a' w' => ∃ ρ', Rep n a' ρ' ∧ Q e ρ' w' ∧ FrM M ρ0 ρ') S (f + 1) li a w := fun v hy hh =>
          wpAnyL_take ho hcl hns h1 h2 (fun c a w hq => by obtain ⟨ρ', _, hq, _⟩ := hq; exact absurd hq (hQ _ _ _)) hy hS
            (ih f _ _ _ _ h3 hh hS (hcl.set (by simpa using h2)) (hr.putO (hd o hmem) v) (hf.trans (.putO (hm o hmem) v)))
        rcases gW_sound h with ⟨hw, hA⟩ | ⟨hw, hB⟩
        · obtain ⟨v, hv, hk⟩ := takeW_sound hA
          refine fin v (.inl ⟨by rw [hr.wanted]; exact hw, ?_⟩) (splitW_sound (K := fun v => planW P ops S r (putO ρ o.dst v) (Q .normal) w) hk)
          rw [hr.eval]; exact hv
        · exact fin undef (.inr ⟨by rw [hr.wanted]; exact hw, rfl⟩) hB
      · exact h.elim
  | one i r ih =>
    intro f li ρ w a hp h hS hcl hr hf
    cases f with
    | zero => simp [planOk] at hp
    | succ f =>
      simp only [planOk, Bool.and_eq_true, beq_iff_eq] at hp
      refine wpAnyL_all hp.1 (by simp) fun j hj => ?_
      have hrd : j ∈ Region.ready .any ops li := by rw [hp.1]; exact hj
      simp only [List.mem_singleton] at hj
      subst hj
      exact actW_sound hd hm h hS hr hf fun ρ' a' w' hS' hn hr' hf' => ih f _ _ _ _ hp.2 hn hS' (hcl.set hrd) hr' hf'
  | two i ri j rj ihi ihj =>
    intro f li ρ w a hp h hS hcl hr hf
    cases f with
    | zero => simp [planOk] at hp
    | succ f =>
      simp only [planOk, Bool.and_eq_true, beq_iff_eq] at hp
      refine wpAnyL_all hp.1.1 (by simp) fun x hx => ?_
      have hrd : x ∈ Region.ready .any ops li := by rw [hp.1.1]; exact hx
      simp only [List.mem_cons, List.not_mem_nil, or_false] at hx
      rcases hx with rfl | rfl
      · exact actW_sound hd hm h.1 hS hr hf fun ρ' a' w' hS' hn hr' hf' => ihi f _ _ _ _ hp.1.2 hn hS' (hcl.set hrd) hr' hf'
      · exact actW_sound hd hm h.2 hS hr hf fun ρ' a' w' hS' hn hr' hf' => ihj f _ _ _ _ hp.2 hn hS' (hcl.set hrd) hr' hf'
  | three i ri j rj k rk ihi ihj ihk =>
    intro f li ρ w a hp h hS hcl hr hf
    cases f with
    | zero => simp [planOk] at hp
    | succ f =>
      simp only [planOk, Bool.and_eq_true, beq_iff_eq] at hp
      refine wpAnyL_all hp.1.1.1 (by simp) fun x hx => ?_
      have hrd : x ∈ Region.ready .any ops li := by rw [hp.1.1.1]; exact hx
      simp only [List.mem_cons, List.not_mem_nil, or_false] at hx
      rcases hx with rfl | rfl | rfl
      · exact actW_sound hd hm h.1 hS hr hf fun ρ' a' w' hS' hn hr' hf' => ihi f _ _ _ _ hp.1.1.2 hn hS' (hcl.set hrd) hr' hf'
      · exact actW_sound hd hm h.2.1 hS hr hf fun ρ' a' w' hS' hn hr' hf' => ihj f _ _ _ _ hp.1.2 hn hS' (hcl.set hrd) hr' hf'
      · exact actW_sound hd hm h.2.2 hS hr hf fun ρ' a' w' hS' hn hr' hf' => ihk f _ _ _ _ hp.2 hn hS' (hcl.set hrd) hr' hf'
theorem wp_loop_ix {c : Code} {Q : Exit → Act → World → Prop} (I : Nat → Act → World → Prop)
    (round : ∀ m a w, I m a w → c.wp P (Exit.then (fun a' w' => ∃ m', m' < m ∧ I m' a' w') Q) a w) {m : Nat} {a : Act} {w : World} (h₀ : I m a w) : (Code.loop c).wp P Q a w := by
  intro b k cs
  have key : ∀ n m a w, m ≤ n → I m a w → ∃ e a' w', Q e a' w' ∧ Arrives P (lone (b.at a (.code c :: .inLoop c :: k)) cs w) b k cs e a' w' := by
    intro n
    induction n with
    | zero =>
      intro m a w hn hI
      obtain ⟨e, a₁, w₁, hq, harr⟩ := round m a w hI b (.inLoop c :: k) cs
      cases e with
      | normal => obtain ⟨m', hlt, _⟩ := hq; omega
      | _ => exact ⟨_, a₁, w₁, hq, .pass (x := .inLoop c) rfl (fun _ _ => .inl (by simp)) harr⟩
    | succ n ih =>
      intro m a w hn hI
      obtain ⟨e, a₁, w₁, hq, harr⟩ := round m a w hI b (.inLoop c :: k) cs
      cases e with
      | normal =>
        obtain ⟨m', hlt, hI₁⟩ := hq
        obtain ⟨e₂, a₂, w₂, hq₂, harr₂⟩ := ih m' a₁ w₁ (by omega) hI₁
        exact ⟨e₂, a₂, w₂, hq₂, .of_steps (Steps.trans harr (.one step_inLoop)) harr₂⟩
      | _ => exact ⟨_, a₁, w₁, hq, .pass (x := .inLoop c) rfl (fun _ _ => .inl (by simp)) harr⟩
  obtain ⟨e, a', w', hq, harr⟩ := key m m a w (Nat.le_refl _) h₀
  exact ⟨e, a', w', hq, .of_steps (.one step_loop) harr⟩
theorem appC_elim : ∀ (l : List (Nat × Sh)) (J : Cur l) (ρ : Env) (w : World) (F : Env → World → Prop) (base : Env), appC l J ρ w → allC l J base F →
    (∀ t, (l.all fun p => decide (p.1 ≠ t)) = true → base t = ρ t) → F ρ w
  | [], J, ρ, w, F, base, ha, hall, hb => by
    have : base = ρ := funext fun t => hb t rfl
    subst this; exact hall w ha
  | (t, s) :: r, J, ρ, w, F, base, ha, hall, hb => by
    obtain ⟨x, hx, hr⟩ := Sh.get_elim ha
    refine appC_elim r (J x) ρ w F _ hr (hall x) fun u hu => ?_
    by_cases e : u = t
    · subst e; rw [put_same, hx]
    · rw [put_ne _ _ e]
      refine hb u ?_
      simp only [List.all_cons, Bool.and_eq_true, decide_eq_true_eq]
      exact ⟨fun h => e h.symm, hu⟩
theorem mix_eq {mask : Nat} {ρ ρ' : Env} (h : ∀ t, Nat.testBit mask t = false → ρ' t = ρ t) : mix mask ρ' ρ = ρ' := by
  funext t
  unfold mix
  cases hb : Nat.testBit mask t with
  | true => rfl
  | false => exact (h t hb).symm
theorem wpc_sound : ∀ (ann : Ann) (c : Code) (Q : Exit → Env → World → Prop) (ρ : Env) (w : World) (a : Act), (∀ c ρ w, ¬ Q (.panic c) ρ w) → chk P n ann c = true → wpc P ann c Q ρ w → Rep n a ρ →
    c.wp P (fun e a' w' => ∃ ρ', Rep n a' ρ' ∧ Q e ρ' w' ∧ FrM (fun m => maskC m c) ρ ρ') a w := by
  intro ann
  induction ann with
  | nil =>
    intro c Q ρ w a hQ hc h hr
    cases c <;> (try simp only [wpc] at h) <;> try exact h.elim
    case skip => exact wp_skip ⟨ρ, hr, h, .refl _ _⟩
    case label l => exact wp_label ⟨ρ, hr, h, .refl _ _⟩
    case exit i => exact wp_exit ⟨ρ, hr, h, .refl _ _⟩
    case goto l => exact wp_goto ⟨ρ, hr, h, .refl _ _⟩
    case ret => exact wp_ret ⟨ρ, hr, h, .refl _ _⟩
    case region id ops d =>
      cases d with
      | true => exact h.elim
      | false =>
      simp only [chk, List.all_eq_true] at hc
      refine wp_region ?_
      have := seqW_sound (n := n) (M := fun m => maskC m (.region id ops false)) (Q := Q) (ρ0 := ρ) ops.toList [] ρ w a rfl hc (fun o ho m hm => by
        simp only [maskC, List.all_eq_true] at hm; exact hm o ho) h hr (.refl _ _)
      simpa [List.range_eq_range'] using this
  | draw p =>
    intro c Q ρ w a hQ hc h hr
    cases c <;> (try simp only [wpc] at h) <;> try exact h.elim
    rename_i id ops d
    cases d with
    | false => exact h.elim
    | true =>
    obtain ⟨S, hS, h⟩ := h
    simp only [chk, Bool.and_eq_true, List.all_eq_true] at hc
    refine wp_region_L hc.1.2 (planW_sound hc.1.1.1 (fun o ho m hm => ?_) hc.1.1.2 hQ p _ _ ρ _ a hc.2 h hS Closed.start hr (.refl _ _))
    simp only [maskC, List.all_eq_true] at hm; exact hm o ho
  | seq x y ihx ihy =>
    intro c Q ρ w a hQ hc h hr
    cases c <;> simp only [wpc] at h
    rename_i cx cy
    simp only [chk, Bool.and_eq_true] at hc
    refine wp_seq (wp_mono (ihx cx (thenE (wpc P y cy Q) Q) ρ w a (fun c ρ w hq => hQ c ρ w hq) hc.1 h hr) ?_)
    rintro e a' w' ⟨ρ', hr', hq, hf⟩
    have hf' : FrM (fun m => maskC m (.seq cx cy)) ρ ρ' := hf.mono fun m hm => by simp only [maskC, Bool.and_eq_true] at hm; exact hm.1
    cases e with
    | normal =>
      refine wp_mono (ihy cy Q ρ' w' a' hQ hc.2 hq hr') ?_
      rintro e a'' w'' ⟨ρ'', hr'', hq'', hf''⟩
      exact ⟨ρ'', hr'', hq'', hf'.trans (hf''.mono fun m hm => by simp only [maskC, Bool.and_eq_true] at hm; exact hm.2)⟩
    | _ => exact ⟨ρ', hr', hq, hf'⟩
  | join l mask x y ihx ihy =>
    intro c Q ρ w a hQ hc h hr
    cases c <;> simp only [wpc] at h
    rename_i cx cy
    simp only [chk, Bool.and_eq_true] at hc
    obtain ⟨J, h1, h2⟩ := h
    refine wp_seq (wp_mono (ihx cx (thenE (appC l J) Q) ρ w a (fun c ρ w hq => hQ c ρ w hq) hc.1.1.1 h1 hr) ?_)
    rintro e a' w' ⟨ρ', hr', hq, hf⟩
    have hf' : FrM (fun m => maskC m (.seq cx cy)) ρ ρ' := hf.mono fun m hm => by simp only [maskC, Bool.and_eq_true] at hm; exact hm.1
    cases e with
    | normal =>
      have hmix := mix_eq (hf mask hc.1.2)
      have := appC_elim l J ρ' w' _ (mix mask ρ' ρ) hq (h2 ρ') (fun t _ => by rw [hmix])
      refine wp_mono (ihy cy Q ρ' w' a' hQ hc.1.1.2 this hr') ?_
      rintro e a'' w'' ⟨ρ'', hr'', hq'', hf''⟩
      exact ⟨ρ'', hr'', hq'', hf'.trans (hf''.mono fun m hm => by simp only [maskC, Bool.and_eq_true] at hm; exact hm.2)⟩
    | _ => exact ⟨ρ', hr', hq, hf'⟩
  | cond x y ihx ihy =>
    intro c Q ρ w a hQ hc h hr
    cases c <;> simp only [wpc] at h
    rename_i v cx cy
    simp only [chk, Bool.and_eq_true] at hc
    unfold condW at h
    split at h
    · rename_i b hb
      have he : a.eval v = .bool b := by rw [hr.eval]; exact hb
      refine wp_cond_split he (fun hb => ?_) (fun hb => ?_)
      · refine wp_mono (ihx cx Q ρ w a hQ hc.1 (h.out.1 hb) hr) ?_
        rintro e a' w' ⟨ρ', hr', hq, hf⟩
        exact ⟨ρ', hr', hq, hf.mono fun m hm => by simp only [maskC, Bool.and_eq_true] at hm; exact hm.1⟩
      · refine wp_mono (ihy cy Q ρ w a hQ hc.2 (h.out.2 hb) hr) ?_
        rintro e a' w' ⟨ρ', hr', hq, hf⟩
        exact ⟨ρ', hr', hq, hf.mono fun m hm => by simp only [maskC, Bool.and_eq_true] at hm; exact hm.2⟩
    · exact h.elim
  | block x ihx =>
    intro c Q ρ w a hQ hc h hr
    cases c <;> simp only [wpc] at h
    rename_i id cx
    simp only [chk] at hc
    refine wp_block (wp_mono (ihx cx (blockE id Q) ρ w a (fun c ρ w hq => hQ c ρ w hq) hc h hr) ?_)
    rintro e a' w' ⟨ρ', hr', hq, hf⟩
    cases e with
    | exit i =>
      simp only [blockE] at hq
      simp only [Exit.inBlock]
      cases hb : Nat.beq i id with
      | true =>
        have := Nat.eq_of_beq_eq_true hb
        subst this
        rw [hb] at hq
        rw [if_pos rfl]; exact ⟨ρ', hr', hq, hf⟩
      | false =>
        rw [hb] at hq
        rw [if_neg (fun e => by subst e; simp at hb)]; exact ⟨ρ', hr', hq, hf⟩
    | _ => exact ⟨ρ', hr', hq, hf⟩
  | loop l mask x ihx =>
    intro c Q ρ w a hQ hc h hr
    cases c <;> simp only [wpc] at h
    rename_i cx
    simp only [chk, Bool.and_eq_true] at hc
    obtain ⟨I, ⟨m, hm⟩, hround⟩ := h
    refine wp_loop_ix (fun m a w => ∃ ρ', Rep n a ρ' ∧ appC l (I m) ρ' w ∧ FrM (fun m => maskC m (.loop cx)) ρ ρ') ?_ ⟨ρ, hr, hm, .refl _ _⟩
    rintro m a w ⟨ρ', hr', ha, hf⟩
    have hmix := mix_eq (hf mask hc.1.2)
    have := appC_elim l (I m) ρ' w _ (mix mask ρ' ρ) ha (hround ρ' m) (fun t _ => by rw [hmix])
    refine wp_mono (ihx cx (thenE (fun ρ'' w'' => ∃ m', m' < m ∧ appC l (I m') ρ'' w'') Q) ρ' w a (fun c ρ w hq => hQ c ρ w hq) hc.1.1 this hr') ?_
    rintro e a'' w'' ⟨ρ'', hr'', hq'', hf''⟩
    have hf3 : FrM (fun m => maskC m (.loop cx)) ρ ρ'' := hf.trans (hf''.mono fun m hm => by simpa only [maskC] using hm)
    cases e with
    | normal => obtain ⟨m', hlt, hq⟩ := hq''; exact ⟨m', hlt, ρ'', hr'', hq, hf3⟩
    | _ => exact ⟨ρ'', hr'', hq'', hf3⟩
def resM (tmps : Array Value) : ResultVar → Sem Value
  | .tmp t => pure (tmps.getD t undef)
  | .cell x t => do loadVar t (← asAddr (tmps.getD x undef))
theorem resW_sound {a : Act} {ρ : Env} {w : World} (hr : Rep n a ρ) : ∀ (rs : List ResultVar) (F : List Value → Prop), resW P rs ρ w F →
    ∃ vs, (rs.mapM (resM a.tmps)).run P w = .ok vs w ∧ F vs
  | [], F, h => ⟨[], by simp, h⟩
  | .tmp t :: r, F, h => by
    obtain ⟨vs, h1, h2⟩ := resW_sound hr r _ h
    refine ⟨_, ?_, h2⟩
    have e : (resM a.tmps (.tmp t)).run P w = .ok (ρ t) w := by rw [← hr.get t]; rfl
    rw [List.mapM_cons, Sem.run_bind, e, Result.andThen_ok, Sem.run_bind, h1]; rfl
  | .cell x t :: r, F, h => by
    obtain ⟨v, hv, h⟩ := loadC_sound h
    obtain ⟨vs, h1, h2⟩ := resW_sound hr r _ h
    refine ⟨_, ?_, h2⟩
    have hx : (resM a.tmps (.cell x t)).run P w = .ok v w := by
      have := hv w (fun _ _ h => h)
      show (do loadVar t (← asAddr (a.tmps.getD x undef)) : Sem Value).run P w = _
      rw [hr.get]
      cases hp : ρ x <;> rw [hp] at this <;> simp only [Instr.loadAt, Instr.sureAddr, Sem.run_bind] at this <;> first | (simp [stuck] at this; done) | skip
      rename_i p
      cases p with
      | none => simp [stuck] at this
      | some p => simpa [asAddr] using this
    rw [List.mapM_cons, Sem.run_bind, hx, Result.andThen_ok, Sem.run_bind, h1]; rfl
theorem results_run {fn : Func} {a : Act} {ρ : Env} {w : World} (hr : Rep n a ρ) {F : List Value → Prop} (h : resW P fn.results.toList ρ w F) : ∃ vs, (results fn a.tmps).run P w = .ok (tup vs) w ∧ F vs := by
  obtain ⟨vs, h1, h2⟩ := resW_sound hr fn.results.toList F h
  refine ⟨vs, ?_, h2⟩
  have e0 : results fn a.tmps = (do let vs ← fn.results.mapM (resM a.tmps); pure (if h : vs.size = 1 then vs[0] else .tuple vs)) := by
    unfold results
    congr 1
  rw [e0, Array.mapM_eq_mapM_toList, Sem.run_bind, Sem.run_map]
  have e : ∀ (r : Result (List Value)), r = .ok vs w → ((r.andThen fun a w' => Result.ok a.toArray w').andThen fun vs w' => Sem.run P (pure (if h : vs.size = 1 then vs[0] else .tuple vs)) w') = .ok (tup vs) w := by
    intro r hr
    subst hr
    simp only [Result.andThen_ok, Sem.run_pure]
    congr 1
    match vs with
    | [] => rfl
    | [v] => rfl
    | _ :: _ :: _ => simp [tup]
  exact e _ h1
theorem fn_sound {f : FuncId} {fn : Func} {c : Code} {ann : Ann} {args : List Value} {tys : List Ty} {K : CurT tys} {w : World} (hf : P.funcs[f]? = some fn) (hb : fn.body = some c)
    (hc : chk P fn.ntmps ann c = true) (ha : Nat.ble args.length fn.ntmps = true) (h : wpc P ann c (retK P tys fn.results.toList K) (argEnv args) w) : callK P f args.toArray tys K w := by
  refine calls_of_wp hf hb (wp_mono (wpc_sound (n := fn.ntmps) ann c _ _ w _ (fun c ρ w hq => hq) hc h ?_) ?_)
  · have hle := Nat.le_of_ble_eq_true ha
    refine ⟨rfl, by simp; omega, fun t => ?_⟩
    simp only [argEnv]
    rcases Nat.lt_or_ge t args.length with h | h
    · simp [Array.getElem?_append, h]
    · simp [List.getD, Array.getElem?_append, Array.getElem?_replicate, Nat.not_lt.2 h]
      split <;> rfl
  · rintro e a' w' ⟨ρ', hr', hq, _⟩
    have fin : resW P fn.results.toList ρ' w' (fun vs => getC tys vs K w') → ∃ v, (results fn a'.tmps).run P w' = .ok v w' ∧ exC tys K (fun vs X => Ending.returned v = .returned (tup vs) ∧ X w') := fun hq => by
      obtain ⟨vs, h1, h2⟩ := results_run hr' hq
      exact ⟨_, h1, exC_mono tys K (fun us X hh => ⟨by rw [hh.1], hh.2⟩) (getC_elim tys vs K w' h2)⟩
    cases e with
    | normal => exact ⟨hr'.defers, fin hq⟩
    | ret => exact ⟨hr'.defers, fin hq⟩
    | _ => exact hq.elim
end sound
end Go.V
