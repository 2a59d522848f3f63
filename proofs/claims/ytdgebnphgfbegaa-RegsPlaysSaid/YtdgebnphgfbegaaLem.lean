/- Small steps for proofs over the texts. -/
import Derived.Test.YtdgebnphgfbegaaHeap
namespace Go.V
section steps
variable {A B : Prop} {K : Int → Prop}
theorem Ar.i64 {e : Int} (h : -9223372036854775808 ≤ e ∧ e ≤ 9223372036854775807) (k : K e) : Ar .i64 e K := fun z hz => by rw [IntWalk.i64_in e h] at hz; subst hz; exact k
theorem Ar.u64 {e : Int} (h : 0 ≤ e ∧ e ≤ 18446744073709551615) (k : K e) : Ar .u64 e K := fun z hz => by rw [IntWalk.u64_in e h] at hz; subst hz; exact k
theorem Ar.u32 {e : Int} (h : 0 ≤ e ∧ e ≤ 4294967295) (k : K e) : Ar .u32 e K := fun z hz => by rw [IntWalk.u32_in e h] at hz; subst hz; exact k
theorem Ar.u16 {e : Int} (h : 0 ≤ e ∧ e ≤ 65535) (k : K e) : Ar .u16 e K := fun z hz => by rw [IntWalk.u16_in e h] at hz; subst hz; exact k
theorem Ar.u8 {e : Int} (h : 0 ≤ e ∧ e ≤ 255) (k : K e) : Ar .u8 e K := fun z hz => by rw [IntWalk.u8_in e h] at hz; subst hz; exact k
theorem wrap_u8 (n : Int) : IntKind.u8.wrap n = n % 256 := by simp [IntKind.wrap, IntKind.signed, IntKind.bits]
theorem wrap_u16 (n : Int) : IntKind.u16.wrap n = n % 65536 := by simp [IntKind.wrap, IntKind.signed, IntKind.bits]
theorem wrap_u32 (n : Int) : IntKind.u32.wrap n = n % 4294967296 := by simp [IntKind.wrap, IntKind.signed, IntKind.bits]
theorem wrap_u64 (n : Int) : IntKind.u64.wrap n = n % 18446744073709551616 := by simp [IntKind.wrap, IntKind.signed, IntKind.bits]
theorem Ar.u8m {e : Int} (k : K (e % 256)) : Ar .u8 e K := fun z hz => by rw [wrap_u8] at hz; subst hz; exact k
theorem Ar.u16m {e : Int} (k : K (e % 65536)) : Ar .u16 e K := fun z hz => by rw [wrap_u16] at hz; subst hz; exact k
theorem Ar.u32m {e : Int} (k : K (e % 4294967296)) : Ar .u32 e K := fun z hz => by rw [wrap_u32] at hz; subst hz; exact k
theorem Ar.u64m {e : Int} (k : K (e % 18446744073709551616)) : Ar .u64 e K := fun z hz => by rw [wrap_u64] at hz; subst hz; exact k
theorem Nm.mk {e : Int} (k : K e) : Nm e K := fun z hz => by subst hz; exact k
theorem Nm.as {e e' : Int} (h : e = e') (k : K e') : Nm e K := fun z hz => by subst hz; rw [h]; exact k
theorem If.dec {p : Prop} [Decidable p] (t : p → A) (f : ¬ p → B) : If (decide p) A B := .mk (fun h => t (of_decide_eq_true h)) (fun h => f (of_decide_eq_false h))
theorem If.beq {a b : Int} (t : a = b → A) (f : a ≠ b → B) : If (a == b) A B := .mk (fun h => t (eq_of_beq h)) (fun h => f (fun e => by subst e; simp at h))
theorem If.bne {a b : Int} (t : a ≠ b → A) (f : a = b → B) : If (a != b) A B := .mk (fun h => t (bne_iff_ne.1 h)) (fun h => f (Classical.byContradiction fun e => by have := bne_iff_ne.2 e; rw [h] at this; cases this))
theorem If.yes (t : A) : If true A B := t
theorem If.no (f : B) : If false A B := f
theorem If.not {b : Bool} (h : If b B A) : If (!b) A B := by cases b <;> exact h
theorem If.cases {b : Bool} (t : b = true → A) (f : b = false → B) : If b A B := .mk t f
theorem Nn.mk {a : Addr} {K : Addr → Prop} (k : K a) : Nn (some a) K := ⟨a, rfl, k⟩
theorem NewW.mk {w : World} {o : Obj} {K : Nat → World → Prop} (k : ∀ b w', New w o b w' → K b w') : NewW w o K := k
/-- An element of a slice of single cells. -/
theorem Ix.cell {w : World} {s : Sl} {cs : List Value} {i : Int} {K : Addr → Prop} (h : Rd w.heap s 1 cs) (h0 : 0 ≤ i) (h1 : i < (s.len : Int))
    (k : ∀ b o v, s.blk = some b → cs[i.toNat]? = some v → Cell w ⟨b, o, none⟩ v → K ⟨b, o, none⟩) : Ix s.a s.len i 1 K := by
  have hl : cs.length = s.len := by simpa using h.len
  have hlt : i.toNat < cs.length := by omega
  obtain ⟨b, off, ha, hc⟩ := h.at_ (by intro e; subst e; simp at hlt)
  refine ⟨_, ha, h0, h1, ?_⟩
  rw [addr_add_none rfl]
  exact k _ _ _ (by simp [Sl.blk, ha]) (List.getElem?_eq_getElem hlt) (Cell.mk (by simpa using hc i.toNat hlt))
theorem Ix.int {w : World} {s : Sl} {k : IntKind} {l : List Int} {i : Int} {K : Addr → Prop} (h : Rd w.heap s 1 (l.map (Value.int k))) (h0 : 0 ≤ i) (h1 : i < (s.len : Int))
    (kk : ∀ b o, s.blk = some b → Cell w ⟨b, o, none⟩ (.int k (l.getD i.toNat 0)) → K ⟨b, o, none⟩) : Ix s.a s.len i 1 K :=
  Ix.cell h h0 h1 fun b o v hsb hv hc => by
    have : v = .int k (l.getD i.toNat 0) := by
      simp only [List.getElem?_map, Option.map_eq_some_iff] at hv
      obtain ⟨x, hx, rfl⟩ := hv
      simp [List.getD, hx]
    subst this
    exact kk b o hsb hc
end steps
/-- Bytes. -/
def B8 (l : List Int) : Prop := ∀ x ∈ l, 0 ≤ x ∧ x ≤ 255
theorem B8.nil : B8 [] := by intro x h; cases h
theorem B8.cons {x : Int} {l : List Int} (h : 0 ≤ x ∧ x ≤ 255) (k : B8 l) : B8 (x :: l) := by
  intro y hy; rcases List.mem_cons.1 hy with rfl | hy
  · exact h
  · exact k y hy
theorem B8.append {l m : List Int} (h : B8 l) (k : B8 m) : B8 (l ++ m) := by
  intro y hy; rcases List.mem_append.1 hy with hy | hy
  · exact h y hy
  · exact k y hy
theorem B8.get {l : List Int} (h : B8 l) (i : Nat) : 0 ≤ l.getD i 0 ∧ l.getD i 0 ≤ 255 := by
  rcases Nat.lt_or_ge i l.length with hlt | hge
  · have : l.getD i 0 = l[i] := by simp [List.getD, hlt]
    rw [this]; exact h _ (List.getElem_mem _)
  · simp [List.getD, List.getElem?_eq_none hge]
theorem B8.sub {l m : List Int} (h : B8 l) (k : ∀ x ∈ m, x ∈ l) : B8 m := fun x hx => h x (k x hx)
theorem B8.take {l : List Int} (h : B8 l) (n : Nat) : B8 (l.take n) := h.sub fun _ hx => List.mem_of_mem_take hx
theorem B8.drop {l : List Int} (h : B8 l) (n : Nat) : B8 (l.drop n) := h.sub fun _ hx => List.mem_of_mem_drop hx
theorem oneC_ints {k : IntKind} {l : List Int} : ∀ v ∈ l.map (Value.int k), oneC v = true := by
  intro v hv
  obtain ⟨x, _, rfl⟩ := List.mem_map.1 hv
  rfl
/-- A slice's cut. -/
theorem Cut.mk {s : Sl} {lo hi mx : Int} {sz : Nat} {K : Sl → Prop} (h0 : 0 ≤ lo) (h1 : lo ≤ hi) (h2 : hi ≤ mx) (h3 : mx ≤ (s.cap : Int))
    (k : K ⟨cutA s.a mx.toNat lo.toNat sz, (hi - lo).toNat, (mx - lo).toNat⟩) : Cut s lo hi mx sz K := ⟨h0, h1, h2, h3, fun s' e => by subst e; exact k⟩
theorem Rd.cut {h : Array Obj} {s : Sl} {sz : Nat} {cs : List Value} (r : Rd h s sz cs) {lo hi mx : Nat} (h1 : lo ≤ hi) (h2 : hi ≤ s.len) (h3 : hi ≤ mx) :
    Rd h ⟨cutA s.a mx lo sz, hi - lo, mx - lo⟩ sz ((cs.drop (lo * sz)).take ((hi - lo) * sz)) := by
  have hl := r.len
  have hle : hi * sz ≤ s.len * sz := Nat.mul_le_mul_right _ h2
  have hle1 : lo * sz + (hi - lo) * sz = hi * sz := by rw [← Nat.add_mul]; congr 1; omega
  refine ⟨by rw [List.length_take, List.length_drop]; simp only; omega, by simp only; omega, fun hne => ?_, fun v hv => r.cells v (List.mem_of_mem_drop (List.mem_of_mem_take hv))⟩
  have hne' : cs ≠ [] := by intro e; subst e; simp at hne
  obtain ⟨b, off, ha, hc⟩ := r.at_ hne'
  have hlt : lo < hi := by
    rcases Nat.lt_or_ge lo hi with h | h
    · exact h
    · exfalso; apply hne
      have : hi - lo = 0 := by omega
      simp [this]
  refine ⟨b, off + lo * sz, ?_, fun i hi' => ?_⟩
  · unfold cutA
    rw [if_neg (by omega), ha]
    simp [addr_add_none]
  · simp only [List.length_take, List.length_drop] at hi'
    rw [Nat.add_assoc, hc (lo * sz + i) (by omega)]
    simp [List.getElem_take, List.getElem_drop]
end Go.V
