/- Layer 11: the document's Drop. -/
import Derived.Test.YtomlobgpeobnfaaRunsN
namespace Go.Proofs.Ytomlobgpeobnfaa
open Go.V Go.V.Rn Go.V.Pk
def drop1 (p : Int) (r : Run) : List Run := if p < r.1 ∨ p ≥ r.2 then [r] else mkR r.1 p ++ mkR (p + 1) r.2
def dropR (p : Int) (l : List Run) : List Run := l.flatMap (drop1 p)
theorem drop_step {L : List Run} {j : Nat} {p : Int} (hj : j < L.length) : dropR p (L.drop j) = drop1 p (gr L j) ++ dropR p (L.drop (j + 1)) := by
  rw [drop_get hj]; simp [dropR]
/-- One run is appended to a list of one's own. -/
theorem appR {w : World} {base : Nat} {s : Sl} {l : List Run} {r : Run} {K : Sl → World → Prop} (own : OwnR w.heap base s l) (hbase : base ≤ w.heap.size) (hl : l.length ≤ 8796093022208)
    (k : ∀ s' w', OwnR w'.heap base s' (l ++ [r]) → Ext (fun b => s.blk = some b) w w' → K s' w') :
    NewW w (.cells [.int .u32 r.1, .int .u32 r.2].toArray 32) fun b w1 => AppW Try.prog 22 22 s (.slice (some (Addr.mk b 0 none)) 1 1) K w1 := by
  intro b w1 new
  have := new.size
  have hs := OwnR.len own
  exact app_api_Run (own.no new.ext) (by omega) ((Own.new (sz := 2) (n := 1) new rfl (rc_one [r])).rd.src) (by simp only; omega) fun s' w2 own' _ ext' _ => k s' w2 (by rw [OwnR, rc_app]; exact own') ((new.ext.of_no (S := fun b => s.blk = some b)).trans ext' fun _ _ h => h)
theorem refDrop_spec {l : Sl} {p : Int} {w : World} {K : Sl → World → Prop} {L : List Run} (h : RdR w.heap l L) (hu : U32 L) (hp : 0 ≤ p) (hn : L.length ≤ 2147483648)
    (k : ∀ s w', OwnR w'.heap w.heap.size s (dropR p L) → Ext No w w' → K s w') : C_ref11_Drop l p w K := by
  apply S_ref11_Drop
  have hl := h.len
  refine ⟨fun m out i w' => ∃ j : Nat, i = j ∧ m = L.length - j ∧ j ≤ L.length ∧ ∃ O, OwnR w'.heap w.heap.size out O ∧ O.length ≤ 2 * j ∧ O ++ dropR p (L.drop j) = dropR p L ∧ Ext No w w',
    ⟨_, 0, rfl, rfl, Nat.zero_le _, [], Own.nil _ _ _ _, Nat.zero_le _, rfl, Ext.refl _ _⟩, ?_⟩
  rintro _ m out i w1 ⟨j, rfl, rfl, hj, O, own, hO, he, ext⟩
  have grow : ∀ {w1 w2 : World} {s : Sl} {M : List Run}, Ext No w w1 → OwnR w1.heap w.heap.size s M → Ext (fun b => s.blk = some b) w1 w2 → Ext No w w2 := fun e o x => e.trans x fun i hi hb => by have := (o.lt hb).1; omega
  refine If.dec (fun hlt => ?_) (fun hge => ?_)
  · have hjl : j < L.length := by omega
    have hg := hu.get j
    have hix : ∀ {w' : World} {K : Addr → Prop}, Ext No w w' → (∀ b o, Cell w' ⟨b, o, none⟩ (.int .u32 (gr L j).1) → Cell w' ((⟨b, o, none⟩ : Addr).add 1) (.int .u32 (gr L j).2) → K ⟨b, o, none⟩) → Ix l.a l.len (j : Int) 2 K := fun {w' K} e kk =>
      Ix.run (w := w') (h.no e) (by omega) hlt fun b o _ c1 c2 => by rw [Int.toNat_natCast] at c1 c2; exact kk b o c1 c2
    rw [drop_step hjl, drop1] at he
    refine ⟨fun o w' => o = out ∧ w' = w1 ∧ ¬ (p < (gr L j).1 ∨ p ≥ (gr L j).2), ⟨fun t w' => w' = w1 ∧ t = decide (p < (gr L j).1 ∨ p ≥ (gr L j).2), ?_, ?_⟩, ?_⟩
    · refine hix ext fun _ _ c1 _ => ⟨_, c1, If.dec (fun h => ⟨rfl, by simp [h]⟩) (fun h => hix ext fun _ _ _ c2 => ⟨_, c2, rfl, by simp [h]⟩)⟩
    · rintro _ t w2 ⟨rfl, rfl⟩
      refine If.dec (fun hc => hix ext fun _ _ c1 c2 => ⟨_, c1, _, c2, appR (r := gr L j) own ext.size (by omega) fun s' w3 own' ext' => Ar.i64 (by omega) ⟨_, ?_, j + 1, by omega, rfl, by omega, O ++ [gr L j], own', by simp; omega, ?_, grow ext own ext'⟩⟩) (fun hc => ⟨rfl, rfl, hc⟩)
      · omega
      · rw [if_pos hc] at he; rw [← he]; simp
    · rintro _ out1 w5 ⟨rfl, rfl, hc⟩
      rw [if_neg hc] at he
      refine ⟨fun o w' => OwnR w'.heap w.heap.size o (O ++ mkR (gr L j).1 p) ∧ Ext No w w', ?_, ?_⟩
      · refine hix ext fun _ _ c1 _ => ⟨_, c1, If.dec (fun h1 => hix ext fun _ _ c1 _ => ⟨_, c1, appR (r := ((gr L j).1, p)) own ext.size (by omega) fun s' w3 own' ext' => ⟨?_, grow ext own ext'⟩⟩) (fun h1 => ⟨?_, ext⟩)⟩
        · rw [show mkR (gr L j).1 p = [((gr L j).1, p)] by unfold mkR; rw [if_neg (by omega)]]; exact own'
        · rw [show mkR (gr L j).1 p = [] by unfold mkR; rw [if_pos (by omega)], List.append_nil]; exact own
      · rintro _ out2 w8 ⟨own8, ext8⟩
        have hm1 := mkR_len (gr L j).1 p
        have hm2 := mkR_len (p + 1) (gr L j).2
        refine Ar.u32 (by omega) (hix ext8 fun _ _ _ c2 => ⟨_, c2, If.dec (fun h1 => Ar.u32 (by omega) (hix ext8 fun _ _ _ c2 => ⟨_, c2, appR (r := (p + 1, (gr L j).2)) own8 ext8.size (by simp; omega) fun s' w3 own' ext' => Ar.i64 (by omega) ⟨_, ?_, j + 1, by omega, rfl, by omega, O ++ mkR (gr L j).1 p ++ [(p + 1, (gr L j).2)], own', by simp; omega, ?_, grow ext8 own8 ext'⟩⟩)) (fun h1 => Ar.i64 (by omega) ⟨_, ?_, j + 1, by omega, rfl, by omega, O ++ mkR (gr L j).1 p, own8, by simp; omega, ?_, ext8⟩)⟩)
        · omega
        · rw [← he, show mkR (p + 1) (gr L j).2 = [(p + 1, (gr L j).2)] by unfold mkR; rw [if_neg (by omega)]]; simp
        · omega
        · rw [← he, show mkR (p + 1) (gr L j).2 = [] by unfold mkR; rw [if_pos (by omega)]]; simp
  · have hnil : L.drop j = [] := List.drop_of_length_le (by omega)
    rw [hnil] at he
    simp only [dropR, List.flatMap_nil, List.append_nil] at he
    have he' : O = dropR p L := he
    rw [he'] at own
    exact k out w1 own ext
end Go.Proofs.Ytomlobgpeobnfaa
