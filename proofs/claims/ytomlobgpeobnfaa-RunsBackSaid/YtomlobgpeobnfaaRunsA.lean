/- Layer 11: what the functions of package runs that read lists compute. -/
import Derived.Test.YtomlobgpeobnfaaFs
import Derived.Test.YtomlobgpeobnfaaTy
import Derived.Test.YtomlobgpeobnfaaRunsPlain
namespace Go.Proofs.Ytomlobgpeobnfaa
open Go.V Go.V.Rn
abbrev OwnR (h : Array Obj) (base : Nat) (s : Sl) (l : List Run) : Prop := Own h base T_api_Run 2 s (rc l)
abbrev RdR (h : Array Obj) (s : Sl) (l : List Run) : Prop := Rd h s 2 (rc l)
theorem RdR.len {h : Array Obj} {s : Sl} {l : List Run} (o : RdR h s l) : s.len = l.length := by have := Rd.len o; rw [rc_len] at this; omega
theorem OwnR.len {h : Array Obj} {base : Nat} {s : Sl} {l : List Run} (o : OwnR h base s l) : s.len = l.length := RdR.len o.rd
theorem Ix.run {w : World} {s : Sl} {l : List Run} {i : Int} {K : Addr → Prop} (h : RdR w.heap s l) (h0 : 0 ≤ i) (h1 : i < (s.len : Int))
    (k : ∀ b o, s.blk = some b → Cell w ⟨b, o, none⟩ (.int .u32 (gr l i.toNat).1) → Cell w ((⟨b, o, none⟩ : Addr).add 1) (.int .u32 (gr l i.toNat).2) → K ⟨b, o, none⟩) : Ix s.a s.len i 2 K := by
  have hl := h.len
  have hlt : i.toNat < l.length := by omega
  have hr := rc_len l
  obtain ⟨b, off, ha, hc⟩ := h.at_ (by intro e; rw [e] at hr; simp at hr; omega)
  obtain ⟨g1, g2⟩ := rc_get l i.toNat hlt
  refine ⟨_, ha, h0, h1, ?_⟩
  rw [addr_add_none rfl]
  refine k _ _ (by simp [Sl.blk, ha]) (Cell.mk ?_) ?_
  · have := hc (i.toNat * 2) (by omega)
    rw [List.getElem?_eq_getElem (by omega), Option.some.injEq] at g1
    rw [g1] at this
    exact this
  · rw [addr_add_none rfl]
    refine Cell.mk ?_
    have := hc (i.toNat * 2 + 1) (by omega)
    rw [List.getElem?_eq_getElem (by omega), Option.some.injEq] at g2
    rw [g2, ← Nat.add_assoc] at this
    exact this
theorem Held.cell1 {w : World} {b o : Nat} {v : Value} (h : Cell w ((⟨b, o, none⟩ : Addr).add 1) v) : Held (Ext No w) ((⟨b, o, none⟩ : Addr).add 1) v := by
  rw [addr_add_none rfl] at h ⊢; exact Held.cell h
theorem Held.but1 {S : Nat → Prop} {w : World} {b o : Nat} {v : Value} (h : Cell w ((⟨b, o, none⟩ : Addr).add 1) v) (hb : ¬ S b) : Held (Ext S w) ((⟨b, o, none⟩ : Addr).add 1) v := by
  rw [addr_add_none rfl] at h ⊢; exact Held.but h hb
abbrev pairO (c d : Int) : Obj := .cells [.int .u32 c, .int .u32 d].toArray 32 (0, 0)
/-- The copy that a range makes of a run. -/
theorem range_run {w1 : World} {c d : Int} {K : Nat → World → Prop} (k : ∀ b w3, w1.heap.size ≤ b → Ext No w1 w3 → w3.heap[b]? = some (pairO c d) → K b w3) :
    NewW w1 (.cells [.int .u32 0, .int .u32 0].toArray 32) fun b w2 => List.length (α := Value) [.int .u32 c, .int .u32 d] = 2 ∧ StN w2 (Addr.mk b 0 none) [.int .u32 c, .int .u32 d] fun w3 => K b w3 := by
  intro b w2 new
  refine ⟨rfl, _, _, _, new.get, rfl, by simp, .inr (.inr (Nat.le_refl _)), by simp [oneC], fun w3 hw => k b w3 (by rw [new.at_]; exact Nat.le_refl _) ?_ ?_⟩
  · exact new.ext.trans hw.ext fun i hi e => by subst e; have := new.at_; omega
  · exact hw.get new.get
theorem right_spec {s : Sl} {w : World} {K : Bool → World → Prop} {L : List Run} (h : RdR w.heap s L) (hu : U32 L) (hn : L.length ≤ 9223372036854775807) (k : ∀ w', Ext No w w' → K (rightB L) w') : C_runs_Right s w K := by
  apply S_runs_Right
  have hl := h.len
  refine ⟨fun m t w' => ∃ j : Nat, t = j ∧ m = L.length - j ∧ j ≤ L.length ∧ rightB L = okFrom (pe L j) (L.drop j) ∧ Ext No w w', ⟨_, 0, rfl, rfl, Nat.zero_le _, rfl, Ext.refl _ _⟩, ?_⟩
  rintro _ m t w1 ⟨j, rfl, rfl, hj, he, ext⟩
  have hg := hu.get j
  refine If.dec (fun hlt => ?_) (fun hge => ?_)
  · have hjl : j < L.length := by omega
    rw [drop_get hjl, okFrom] at he
    refine Ix.run (h.no ext) (by omega) hlt fun b o hb c1 c2 => ⟨_, c1, _, c2, range_run fun b w3 hbs ext3 hb3 => ⟨Ext No w3, (Ext.refl _ _).drew, ?_⟩⟩
    rw [Int.toNat_natCast] at hb3
    have ext' := ext.no ext3
    refine ⟨_, Held.cell (Cell.lst hb3 rfl), _, Held.cell (Cell.lst hb3 rfl), If.dec (fun h1 => ?_) (fun h1 => ?_)⟩
    · have : rightB L = false := by rw [he]; simp; intro; omega
      rw [← this]; exact k _ ext'.drew
    · have next : ∀ (_ : decide (pe L j < (gr L j).1) = true), ∃ m1, m1 < L.length - j ∧ ∃ j' : Nat, (j : Int) + 1 = j' ∧ m1 = L.length - j' ∧ j' ≤ L.length ∧ rightB L = okFrom (pe L j') (L.drop j') ∧ Ext No w (drewW w3) := fun hd =>
        ⟨_, by omega, j + 1, by omega, rfl, by omega, by rw [he, hd, pe_succ]; simp; intro; omega, ext'.drew⟩
      refine If.dec (fun h2 => ?_) (fun h2 => Ar.i64 (by omega) (next ?_))
      · refine ⟨_, Held.cell (Cell.lst hb3 rfl), Ar.i64 (by omega) (Ix.run (h.no ext') (by omega) (by omega) fun b o hb c1 c2 => ⟨_, Held.cell1 c2, ?_⟩)⟩
        have hpe : pe L j = (gr L ((j : Int) - 1).toNat).2 := by
          unfold pe; rw [if_neg (by omega), show ((j : Int) - 1).toNat = j - 1 by omega]
        rw [← hpe]
        refine If.dec (fun h3 => ?_) (fun h3 => Ar.i64 (by omega) (next (by simp; omega)))
        have : rightB L = false := by rw [he]; simp; intro _ h; omega
        rw [← this]; exact k _ ext'.drew
      · have : j = 0 := by omega
        subst this; simp [pe]; omega
  · have hnil : L.drop j = [] := List.drop_of_length_le (by omega)
    rw [hnil] at he
    have := k w1 ext
    rw [he] at this
    exact this
end Go.Proofs.Ytomlobgpeobnfaa
