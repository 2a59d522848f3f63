/- Layer 7: PackBack. -/
import Derived.Test.YtbkhcmldclgkoaaPackF
namespace Go.Proofs.Ytbkhcmldclgkoaa
open Go.V Go.V.Pk
/-- A thing: a number, or a text with its slice. -/
structure Thing where
  n : Int
  is : Bool
  s : Sl
  t : List Int
def Thing.c (x : Thing) : List Value := [.int .u64 x.n, .bool x.is, x.s.v]
def Thing.ok (h : Array Obj) (x : Thing) : Prop := 0 ≤ x.n ∧ x.n ≤ 18446744073709551615 ∧ RdB h x.s x.t ∧ B8 x.t
/-- Its bytes. -/
def Thing.e (x : Thing) : List Int := if x.is then numB x.t.length ++ x.t else numB x.n.toNat
def encs (l : List Thing) : List Int := l.flatMap Thing.e
theorem thing_len (l : List Thing) : (l.flatMap Thing.c).length = l.length * 3 := by
  induction l with
  | nil => rfl
  | cons x r ih => simp only [List.flatMap_cons, List.length_append, List.length_cons, Thing.c, List.length_nil] at ih ⊢; omega
theorem thing_get (l : List Thing) (i : Nat) (h : i < l.length) : (l.flatMap Thing.c)[i * 3]? = some (.int .u64 l[i].n) ∧ (l.flatMap Thing.c)[i * 3 + 1]? = some (.bool l[i].is) ∧ (l.flatMap Thing.c)[i * 3 + 2]? = some l[i].s.v := by
  induction l generalizing i with
  | nil => simp at h
  | cons x r ih =>
    cases i with
    | zero => exact ⟨rfl, rfl, rfl⟩
    | succ i =>
      have := ih i (by simpa using h)
      simp only [List.flatMap_cons, Thing.c, List.cons_append, List.nil_append, List.getElem_cons_succ] at this ⊢
      rw [show (i + 1) * 3 = i * 3 + 1 + 1 + 1 from by omega]
      exact this
theorem Ix.thing {w : World} {s : Sl} {l : List Thing} {i : Int} {K : Addr → Prop} (h : Rd w.heap s 3 (l.flatMap Thing.c)) (h0 : 0 ≤ i) (h1 : i < (s.len : Int))
    (k : ∀ b o x, l[i.toNat]? = some x → Cell w ⟨b, o, none⟩ (.int .u64 x.n) → Cell w ⟨b, o + 1, none⟩ (.bool x.is) → Cell w ⟨b, o + 2, none⟩ x.s.v → K ⟨b, o, none⟩) : Ix s.a s.len i 3 K := by
  have hl : l.length = s.len := by have := h.len; rw [thing_len] at this; omega
  have hlt : i.toNat < l.length := by omega
  obtain ⟨b, off, ha, hc⟩ := h.at_ (by intro e; have := thing_len l; rw [e] at this; simp at this; omega)
  refine ⟨_, ha, h0, h1, ?_⟩
  rw [addr_add_none rfl]
  obtain ⟨g1, g2, g3⟩ := thing_get l i.toNat hlt
  obtain ⟨p1, e1⟩ := List.getElem?_eq_some_iff.1 g1
  obtain ⟨p2, e2⟩ := List.getElem?_eq_some_iff.1 g2
  obtain ⟨p3, e3⟩ := List.getElem?_eq_some_iff.1 g3
  refine k _ _ l[i.toNat] (List.getElem?_eq_getElem hlt) (Cell.mk ?_) (Cell.mk ?_) (Cell.mk ?_)
  · rw [hc _ p1, e1]
  · rw [Nat.add_assoc, hc _ p2, e2]
  · rw [Nat.add_assoc, hc _ p3, e3]
theorem things_open {H : Type} {enc : TypeId × Value → H} {W : World} {s : Sl} {ess : List (List Value)} (el : Elems enc Try.prog W T_donjonlaw07_Item s ess) :
    ∃ q : List Thing, q.length = s.len ∧ Rd W.heap s 3 (q.flatMap Thing.c) ∧ ∀ x ∈ q, x.ok W.heap := by
  refine el.list Thing.c (Thing.ok W.heap) (fun es hl hr => ?_) (by kernel_rfl) (by decide) (fun x _ v hv => by simp [Thing.c] at hv; rcases hv with rfl | rfl | rfl <;> rfl)
  have hc : Try.prog.cellsOf T_donjonlaw07_Item = 3 := by kernel_rfl
  obtain ⟨v0, g0, r0⟩ := hr.fld 0 (o := 0) (n := 3) (by kernel_rfl) (by kernel_rfl) (by kernel_rfl) (by kernel_rfl) (by kernel_rfl) (by decide)
  obtain ⟨v1, g1, r1⟩ := hr.fld 1 (o := 1) (n := 3) (by kernel_rfl) (by kernel_rfl) (by kernel_rfl) (by kernel_rfl) (by kernel_rfl) (by decide)
  obtain ⟨v2, g2, r2⟩ := hr.fld 2 (o := 2) (n := 3) (by kernel_rfl) (by kernel_rfl) (by kernel_rfl) (by kernel_rfl) (by kernel_rfl) (by decide)
  obtain ⟨n0, e0, w0⟩ := r0.int (k := .u64) (by kernel_rfl)
  obtain ⟨n1, e1⟩ := r1.bool (by kernel_rfl)
  obtain ⟨s2, e2, ess2, el2⟩ := r2.slice (e := T_uint8) (by kernel_rfl)
  obtain ⟨l2, rd2, b82⟩ := el2.bytes (by kernel_rfl) (by kernel_rfl)
  simp only [List.cons.injEq, and_true] at e0 e1 e2
  subst e0 e1 e2
  exact ⟨⟨n0, n1, s2, l2⟩, len3 (by rw [hl, hc]) g0 g1 g2, (u64_wf w0).1, (u64_wf w0).2, rd2, b82⟩
/-! ### plain: what readers make of things -/
theorem encs_append (a b : List Thing) : encs (a ++ b) = encs a ++ encs b := by simp [encs]
theorem thing_b8 {h : Array Obj} {x : Thing} (hx : x.ok h) : B8 x.e := by
  unfold Thing.e; split
  · exact (numB_b8 _).append hx.2.2.2
  · exact numB_b8 _
theorem encs_b8 {h : Array Obj} {l : List Thing} (hl : ∀ x ∈ l, x.ok h) : B8 (encs l) := by
  intro y hy
  obtain ⟨x, hx, hy⟩ := List.mem_flatMap.1 hy
  exact thing_b8 (hl x hx) y hy
theorem thing_e_len {h : Array Obj} {x : Thing} (hx : x.ok h) (ht : x.t.length ≤ 200) : 0 < x.e.length ∧ x.e.length ≤ 210 := by
  have h1 := numB_len10 (n := x.t.length) (by omega)
  have h2 := numB_len10 (n := x.n.toNat) (by have := hx.2.1; omega)
  have h3 : 0 < (numB x.t.length).length := List.length_pos_iff.2 (numB_ne _)
  have h4 : 0 < (numB x.n.toNat).length := List.length_pos_iff.2 (numB_ne _)
  unfold Thing.e; split
  · rw [List.length_append]; omega
  · omega
/-- A thing that is there whole is read. -/
theorem read_whole {h : Array Obj} {x : Thing} {l : List Int} {a : Nat} {rest : List Int} (hx : x.ok h) (ht : x.t.length ≤ 200) (hd : l.drop a = x.e ++ rest) (ha : a ≤ l.length) :
    (x.is = true → rText 200 l a 0 = (x.t, a + x.e.length, 0)) ∧ (x.is = false → rNum l a 0 = (x.n, a + x.e.length, 0)) := by
  have hlen : l.length - a = x.e.length + rest.length := by rw [← List.length_drop, hd, List.length_append]
  constructor
  · intro hi
    have he : x.e = numB x.t.length ++ x.t := by simp [Thing.e, hi]
    rw [he] at hd hlen
    rw [List.append_assoc] at hd
    have htk := tk_back0 (m := x.t.length) (by omega) (x.t ++ rest)
    rw [List.length_append] at hlen
    unfold rText
    rw [if_neg (by simp)]
    simp only
    rw [hd, htk]
    simp only [ne_eq, not_true_eq_false, if_false]
    rw [if_neg (by omega), if_neg (by omega), he, List.length_append]
    refine Prod.ext ?_ (Prod.ext ?_ rfl)
    · simp only
      rw [← List.drop_drop, hd, List.drop_left, Int.toNat_natCast, List.take_left]
    · simp only; omega
  · intro hi
    have he : x.e = numB x.n.toNat := by simp [Thing.e, hi]
    have h1 := hx.1
    have h2 := hx.2.1
    have htk := tk_back0 (m := x.n.toNat) (by omega) rest
    rw [he] at hd
    unfold rNum
    rw [if_neg (by simp), hd, htk, he]
    simp [Int.toNat_of_nonneg h1]
/-- A thing that is cut is too short. -/
theorem read_cut {h : Array Obj} {x : Thing} {l : List Int} {a j : Nat} (hx : x.ok h) (ht : x.t.length ≤ 200) (hd : l.drop a = x.e.take j) (hj : j < x.e.length) (ha : a ≤ l.length) :
    (x.is = true → (rText 200 l a 0).2.2 = 4) ∧ (x.is = false → (rNum l a 0).2.2 = 4) := by
  have hlen : l.length - a = j := by rw [← List.length_drop, hd, List.length_take]; omega
  constructor
  · intro hi
    have he : x.e = numB x.t.length ++ x.t := by simp [Thing.e, hi]
    rw [he] at hd hj
    rw [List.length_append] at hj
    unfold rText
    rw [if_neg (by simp)]
    simp only
    by_cases hlt : j < (numB x.t.length).length
    · rw [List.take_append_of_le_length (by omega)] at hd
      rw [hd, tk_cut0 (by omega) hlt]
      simp
    · rw [List.take_append] at hd
      rw [List.take_of_length_le (by omega)] at hd
      have htk := tk_back0 (m := x.t.length) (by omega) (x.t.take (j - (numB x.t.length).length))
      rw [hd, htk]
      simp only [ne_eq, not_true_eq_false, if_false]
      rw [if_neg (by omega), if_pos (by omega)]
  · intro hi
    have he : x.e = numB x.n.toNat := by simp [Thing.e, hi]
    rw [he] at hd hj
    have h2 := hx.2.1
    unfold rNum
    rw [if_neg (by simp), hd, tk_cut0 (by omega) hj]
    simp
end Go.Proofs.Ytbkhcmldclgkoaa
