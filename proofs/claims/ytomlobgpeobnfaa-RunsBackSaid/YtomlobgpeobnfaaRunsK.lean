/- Layer 11: copies, spoiling, the document's Both. -/
import Derived.Test.YtomlobgpeobnfaaRunsJ
namespace Go.Proofs.Ytomlobgpeobnfaa
open Go.V Go.V.Rn Go.V.Pk
theorem copy_run {w : World} {d x : Sl} {b off : Nat} {row xs : List Value} {T : TypeId} {K : Int → World → Prop} (hd : d.a = some ⟨b, off, none⟩) (hb : w.heap[b]? = some (.cells row.toArray T (0, 0))) (hx : Rd w.heap x 2 xs)
    (hle : off + min x.len d.len * 2 ≤ row.length) (hk : ∀ w', Wrt w b (.cells (setL row off (xs.take (min x.len d.len * 2))).toArray T (0, 0)) w' → K (min x.len d.len : Nat) w') : CopyW Try.prog T_sl_api_Run T_sl_api_Run d x.v K w :=
  copy_at (P := Try.prog) (e := T_api_Run) (ie := Try.t32) (by kernel_rfl) (by kernel_rfl) (by kernel_rfl) hd hb hx hle hk
theorem flat_len (n : Nat) (a b : Value) : (List.replicate n [a, b]).flatten.length = n * 2 := by simp
theorem own_spec {l : Sl} {w : World} {K : Sl → World → Prop} {L : List Run} (h : RdR w.heap l L) (hn : L.length ≤ 17592186044416)
    (k : ∀ s w', OwnR w'.heap w.heap.size s L → Ext No w w' → K s w') : C_law11_own l w K := by
  apply S_law11_own
  have hl := h.len
  refine Ar.i64 (by omega) (MkW.mk (by omega) (by omega) (by omega) (by omega) fun i w1 new => ?_)
  have e1 : ((l.len : Int) + 2).toNat = l.len + 2 := by omega
  simp only [e1, Int.toNat_natCast] at new ⊢
  have hx := h.no new.ext
  have hf := flat_len (l.len + 2) (.int .u32 0) (.int .u32 0)
  have hrc := rc_len L
  refine copy_run rfl new.get hx (by rw [hf]; simp; omega) fun w2 hw => ?_
  refine k _ w2 ?_ (new.ext.trans hw.ext fun j hj e => by subst e; have := new.at_; omega)
  simp only [Nat.min_self] at hw
  have ht : (rc L).take (l.len * 2) = rc L := List.take_of_length_le (by omega)
  rw [ht] at hw
  refine ⟨by rw [hrc, hl], .inr ⟨i, (List.replicate (l.len + 2) [Value.int .u32 0, Value.int .u32 0]).flatten.drop (L.length * 2), rfl, by rw [new.at_]; exact Nat.le_refl _, ?_, ?_, by simp⟩, rc_one _⟩
  · rw [hw.get new.get, setL_eq _ _ _ (by rw [hf]; omega)]
    simp only [List.take_zero, List.nil_append, Nat.zero_add, hrc]
  · rw [List.length_append, List.length_drop, hf, hrc]; simp only; omega
theorem StN.run {w : World} {base : Nat} {s : Sl} {L : List Run} {i x y : Int} {K : World → Prop} (o : OwnR w.heap base s L) (h0 : 0 ≤ i) (h1 : i < (s.len : Int))
    (k : ∀ w', OwnR w'.heap base s (L.take i.toNat ++ ([(x, y)] ++ L.drop (i.toNat + 1))) → Ext (fun b => s.blk = some b) w w' → K w') :
    Ix s.a s.len i 2 fun a => List.length (α := Value) [.int .u32 x, .int .u32 y] = 2 ∧ StN w a [.int .u32 x, .int .u32 y] K := by
  have hl := OwnR.len o
  have hrc := rc_len L
  rcases o.is with ⟨rfl, hn⟩ | ⟨b, rest, ha, hle, hb, hc, hcap⟩
  · simp at h1; omega
  · refine ⟨_, ha, h0, h1, rfl, ?_⟩
    rw [addr_add_none rfl]
    simp only [Nat.zero_add]
    have hlen : (L.take i.toNat ++ ([(x, y)] ++ L.drop (i.toNat + 1))).length = L.length := by simp; omega
    have hset : setL (rc L ++ rest) (i.toNat * 2) [.int .u32 x, .int .u32 y] = rc (L.take i.toNat ++ ([(x, y)] ++ L.drop (i.toNat + 1))) ++ rest := by
      rw [setL_eq _ _ _ (by simp; omega), rc_app, rc_app, rc_take, rc_drop, List.take_append_of_le_length (by omega), List.drop_append_of_le_length (by simp; omega)]
      simp [rc, Nat.add_mul]
    refine ⟨_, _, _, hb, rfl, by simp at hc ⊢; omega, .inr (.inr (Nat.le_refl _)), by simp [oneC], fun w' hw => k w' ⟨by rw [rc_len, hlen, hl], .inr ⟨b, rest, ha, hle, ?_, ?_, hcap⟩, rc_one _⟩ (hw.ext.mono fun j _ hj => by subst hj; simp [Sl.blk, ha])⟩
    · rw [hw.get hb]; simp only [hset]
    · rw [List.length_append, rc_len, hlen, ← hrc, ← List.length_append]; exact hc
theorem spoil_spec {l : Sl} {w : World} {base : Nat} {K : World → Prop} {L : List Run} (o : OwnR w.heap base l L) (hn : L.length ≤ 9223372036854775807) (k : ∀ w', Ext (fun b => l.blk = some b) w w' → K w') : C_law11_spoil l w K := by
  apply S_law11_spoil
  have hl := OwnR.len o
  refine ⟨fun m t w' => ∃ j : Nat, t = j ∧ m = L.length - j ∧ j ≤ L.length ∧ (∃ M, OwnR w'.heap base l M) ∧ Ext (fun b => l.blk = some b) w w', ⟨_, 0, rfl, rfl, Nat.zero_le _, ⟨L, o⟩, Ext.refl _ _⟩, ?_⟩
  rintro _ m t w1 ⟨j, rfl, rfl, hj, ⟨M, oM⟩, ext⟩
  refine If.dec (fun hlt => StN.run oM (by omega) hlt fun w2 o2 ext2 => Ar.i64 (by omega) ⟨_, ?_, j + 1, by omega, rfl, by omega, ⟨_, o2⟩, ext.trans ext2 fun _ _ h => h⟩) (fun _ => k w1 ext)
  omega
end Go.Proofs.Ytomlobgpeobnfaa
