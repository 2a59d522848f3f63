/- Layer 11: Take, Give, and the law's known answer. -/
import Derived.Test.YtomlobgpeobnfaaRunsD
namespace Go.Proofs.Ytomlobgpeobnfaa
open Go.V Go.V.Rn
theorem mkR_len (a b : Int) : (mkR a b).length ≤ 1 := by unfold mkR; split <;> simp
theorem take_spec {l : Sl} {w : World} {K : Int → Sl → Int → World → Prop} {L : List Run} (h : RdR w.heap l L) (hu : U32 L) (hn : L.length ≤ 9223372036854775807)
    (k0 : rightB L = false → ∀ w', Ext No w w' → K 0 ⟨none, 0, 0⟩ 2 w') (k1 : L = [] → ∀ w', Ext No w w' → K 0 ⟨none, 0, 0⟩ 9 w')
    (k2 : ∀ r M, L = r :: M → rightB L = true → ∀ s w', OwnR w'.heap w.heap.size s (takeR L) → Ext No w w' → K r.1 s 0 w') : C_runs_Take l w K := by
  apply S_runs_Take
  have hl := h.len
  refine right_spec h hu hn fun w1 ext => If.not (If.cases (fun hr => ?_) (fun hr => k0 hr w1 ext))
  refine If.beq (fun h0 => k1 (List.length_eq_zero_iff.1 (by omega)) w1 ext) (fun h0 => ?_)
  obtain ⟨r, M, rfl⟩ := cons_of_len (L := L) (by omega)
  have hlen := right_len hr hu
  have hrr := hu.head
  have hlt : r.1 < r.2 := by
    have := okFrom_beyond hr r List.mem_cons_self; exact this.2
  refine Ix.run (h.no ext) (by omega) (by omega) fun b o hb c1 c2 => ⟨_, c1, _, c2, range_run fun b w3 hbs ext3 hb3 => ?_⟩
  have e0 : gr (r :: M) (0 : Int).toNat = r := rfl
  rw [e0] at hb3
  have ext' := ext.no ext3
  refine ⟨_, Cell.lst hb3 rfl, Ar.u32 (by omega) ⟨_, Cell.lst hb3 rfl, make_spec fun s4 w4 own4 ext4 => ?_⟩⟩
  have l4 := OwnR.len own4
  have hmk := mkR_len (r.1 + 1) r.2
  have sz1 := ext.size
  have sz3 := ext3.size
  have sz4 := ext4.size
  have hblt : b < w3.heap.size := (Array.getElem?_eq_some_iff.1 hb3).1
  refine app_api_Run (Own.nil _ w.heap.size _ _) (by omega) own4.rd.src (by simp only; omega) fun s5 w5 own5 len5 ext5 blk5 => ?_
  simp only [List.nil_append] at own5
  have ext5' : Ext No w4 w5 := ext5.mono fun i _ hi => by simp [Sl.blk] at hi
  have sz5 := ext5'.size
  have hne : ¬ s5.blk = some b := by
    intro he
    rcases blk5 with h' | ⟨b', h', hge⟩
    · rw [he] at h'; simp [Sl.blk] at h'
    · rw [he] at h'; cases h'; omega
  have hb5 : w5.heap[b]? = some (pairO r.1 r.2) := by
    rw [ext5'.blk b (by omega) id, ext4.blk b hblt id]; exact hb3
  have extw5 : Ext No w w5 := (ext'.no ext4).no ext5'
  refine ⟨Ext (fun i => s5.blk = some i) w5, (Ext.refl _ _).drew, _, Held.but (Cell.lst hb5 rfl) hne, ?_⟩
  have rd5 : RdR (drewW w5).heap l (r :: M) := h.no extw5.drew
  have own5d : Own (drewW w5).heap w.heap.size T_api_Run 2 s5 (rc (mkR (r.1 + 1) r.2)) := own5
  refine Cut.tail rd5 fun s' rd' => app_api_Run own5d (by have : (drewW w5).heap.size = w5.heap.size := rfl
                                                          omega) rd'.src (by have := rd'.len; simp only [List.length_cons] at hlen hl; simp only at len5; omega) fun s6 w6 own6 _ ext6 _ => ⟨ext6.drew_left, ?_⟩
  refine k2 r M rfl hr s6 w6 (by rw [OwnR, takeR, rc_app]; exact own6) (extw5.trans ext6.drew_left fun i hi hb => ?_)
  have := (own5.lt hb).1; omega
theorem mk_one {p : Int} (h0 : 0 ≤ p) : mkR p (p + 1) = [(p, p + 1)] ∧ rightB [(p, p + 1)] = true := by
  refine ⟨by unfold mkR; rw [if_neg (by omega)], ?_⟩
  simp only [rightB, okFrom, Bool.and_true, Bool.and_eq_true, decide_eq_true_eq]; omega
theorem give_spec {l : Sl} {p : Int} {w : World} {K : Sl → Int → World → Prop} {L : List Run} (h : RdR w.heap l L) (hu : U32 L) (hn : L.length ≤ 9223372036854775807) (hp : 0 ≤ p ∧ p ≤ 4294967295)
    (k0 : rightB L = false → ∀ w', Ext No w w' → K ⟨none, 0, 0⟩ 2 w') (k1 : rightB L = true → p = 4294967295 → ∀ w', Ext No w w' → K ⟨none, 0, 0⟩ 2 w')
    (k2 : rightB L = true → p ≠ 4294967295 → hasB p L = true → ∀ w', Ext No w w' → K ⟨none, 0, 0⟩ 8 w')
    (k3 : rightB L = true → p ≠ 4294967295 → hasB p L = false → ∀ s w', OwnR w'.heap w.heap.size s (bothR L [(p, p + 1)]) → Ext No w w' → K s 0 w') : C_runs_Give l p w K := by
  apply S_runs_Give
  refine has_spec h hu hn fun w1 ext => ?_
  cases hr : rightB L with
  | false => exact If.bne (fun _ => k0 hr w1 ext) (fun h => by simp at h)
  | true =>
    refine If.bne (fun h => by simp at h) (fun _ => If.beq (fun e => k1 hr e w1 ext) (fun e => If.cases (fun hh => k2 hr e (by simpa using hh) w1 ext) (fun hh => ?_)))
    have hh' : hasB p L = false := by simpa using hh
    have hlen := right_len hr hu
    obtain ⟨m1, m2⟩ := mk_one (p := p) hp.1
    refine Ar.u32 (by omega) (make_spec fun s2 w2 own2 ext2 => ?_)
    rw [m1] at own2
    have ext' := ext.no ext2
    refine both_spec (h.no ext') own2.rd hu (fun x hx => by simp at hx; subst hx; exact ⟨by omega, by omega, by simp only; omega, by simp only; omega⟩) hn (by simp) fun s3 w3 own3 ext3 => ?_
    rw [hr, m2] at own3 ⊢
    exact k3 hr e hh' s3 w3 (own3.mono ext'.size) (ext'.no ext3)
theorem known_spec {w : World} {K : Bool → World → Prop} (k : ∀ w', Ext No w w' → K true w') : C_law11_known w K := by
  apply S_law11_known
  intro b w1 new
  have own1 : OwnR w1.heap w.heap.size ⟨some ⟨b, 0, none⟩, 2, 2⟩ [(2, 5), (6, 8)] := Own.new (sz := 2) (n := 2) new rfl (rc_one [(2, 5), (6, 8)])
  have hu : U32 [(2, 5), (6, 8)] := by intro r hr; simp at hr; rcases hr with rfl | rfl <;> decide
  have hright : rightB [(2, 5), (6, 8)] = true := by decide
  have hhas : hasB 5 [(2, 5), (6, 8)] = false := by decide
  have hboth : bothR [(2, 5), (6, 8)] [(5, 5 + 1)] = [(2, 8)] := by simp [bothR, bothF, addR, setTo, lastTo, gr, iMax]
  refine give_spec own1.rd hu (by simp) (by omega) (fun h => by rw [hright] at h; cases h) (fun _ h => by omega) (fun _ _ h => by rw [hhas] at h; cases h) fun _ _ _ s2 w2 own2 ext2 => ?_
  rw [hboth] at own2
  have hu2 : U32 [(2, 8)] := by intro r hr; simp at hr; subst hr; decide
  refine take_spec own2.rd hu2 (by simp) (fun h => absurd h (by decide)) (fun h => by cases h) fun r M hL _ s3 w3 own3 ext3 => ?_
  cases hL
  have own3' : OwnR w3.heap w2.heap.size s3 [(3, 8)] := own3
  have l2 := OwnR.len own2
  have l3 := OwnR.len own3'
  have ext : Ext No w w3 := (new.ext.no ext2).no ext3
  simp only [List.length_cons, List.length_nil] at l2 l3
  refine If.beq (fun _ => If.beq (fun _ => If.beq (fun _ => Ix.run (own2.rd.no ext3) (by omega) (by omega) fun _ _ _ c1 c2 => ⟨_, c1, _, c2, If.cases (fun _ => If.beq (fun _ => If.beq (fun _ => Ix.run own3'.rd (by omega) (by omega) fun _ _ _ c1 c2 => ⟨_, c1, k w3 ext⟩) (fun h => by omega)) (fun h => by simp at h)) (fun h => by simp [gr] at h)⟩) (fun h => by omega)) (fun h => by simp at h)) (fun h => by simp at h)
end Go.Proofs.Ytomlobgpeobnfaa
