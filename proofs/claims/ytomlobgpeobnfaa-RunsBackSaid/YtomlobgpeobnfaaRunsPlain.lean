/- Layer 11, plain: lists of runs. -/
import Derived.Test.YtomlobgpeobnfaaHeapB
namespace Go.V.Rn
open Go.V
abbrev Run := Int × Int
def gr (l : List Run) (i : Nat) : Run := l.getD i (0, 0)
def rc (l : List Run) : List Value := l.flatMap fun r => [.int .u32 r.1, .int .u32 r.2]
theorem rc_len : ∀ l : List Run, (rc l).length = l.length * 2
  | [] => rfl
  | r :: l => by have := rc_len l; simp only [rc, List.flatMap_cons, List.length_append, List.length_cons, List.length_nil] at this ⊢; omega
theorem rc_app (l m : List Run) : rc (l ++ m) = rc l ++ rc m := by simp [rc]
theorem rc_drop : ∀ (n : Nat) (l : List Run), rc (l.drop n) = (rc l).drop (n * 2)
  | 0, l => by simp
  | n + 1, [] => by simp [rc]
  | n + 1, r :: l => by
    have := rc_drop n l
    rw [List.drop_succ_cons, this, show (n + 1) * 2 = n * 2 + 2 by omega]
    rfl
theorem rc_take : ∀ (n : Nat) (l : List Run), rc (l.take n) = (rc l).take (n * 2)
  | 0, l => by simp [rc]
  | n + 1, [] => by simp [rc]
  | n + 1, r :: l => by
    have := rc_take n l
    simp only [List.take_succ_cons, rc, List.flatMap_cons] at this ⊢
    rw [this, show (n + 1) * 2 = n * 2 + 2 by omega]
    rfl
theorem rc_one : ∀ (l : List Run), ∀ v ∈ rc l, oneC v = true := by
  intro l v hv
  simp only [rc, List.mem_flatMap] at hv
  obtain ⟨r, _, h⟩ := hv
  simp at h
  rcases h with rfl | rfl <;> rfl
theorem gr_succ (r : Run) (l : List Run) (i : Nat) : gr (r :: l) (i + 1) = gr l i := by simp [gr]
theorem gr_zero (r : Run) (l : List Run) : gr (r :: l) 0 = r := by simp [gr]
theorem rc_get : ∀ (l : List Run) (i : Nat), i < l.length → (rc l)[i * 2]? = some (.int .u32 (gr l i).1) ∧ (rc l)[i * 2 + 1]? = some (.int .u32 (gr l i).2)
  | [], i, h => by simp at h
  | r :: l, 0, _ => by simp [rc, gr]
  | r :: l, i + 1, h => by
    have := rc_get l i (by simpa using h)
    simp only [rc, List.flatMap_cons, gr_succ] at this ⊢
    rw [show (i + 1) * 2 = i * 2 + 2 by omega, show i * 2 + 2 + 1 = (i * 2 + 1) + 2 by omega]
    exact this
def U32 (l : List Run) : Prop := ∀ r ∈ l, 0 ≤ r.1 ∧ r.1 ≤ 4294967295 ∧ 0 ≤ r.2 ∧ r.2 ≤ 4294967295
theorem U32.get {l : List Run} (h : U32 l) (i : Nat) : 0 ≤ (gr l i).1 ∧ (gr l i).1 ≤ 4294967295 ∧ 0 ≤ (gr l i).2 ∧ (gr l i).2 ≤ 4294967295 := by
  rcases Nat.lt_or_ge i l.length with hlt | hge
  · have : gr l i = l[i] := by simp [gr, List.getD, hlt]
    rw [this]; exact h _ (List.getElem_mem _)
  · simp [gr, List.getD, List.getElem?_eq_none hge]
theorem U32.app {l m : List Run} (h : U32 l) (k : U32 m) : U32 (l ++ m) := fun r hr => (List.mem_append.1 hr).elim (h r) (k r)
theorem U32.sub {l m : List Run} (h : U32 l) (k : ∀ x ∈ m, x ∈ l) : U32 m := fun x hx => h x (k x hx)
theorem drop_get {l : List Run} {j : Nat} (h : j < l.length) : l.drop j = gr l j :: l.drop (j + 1) := by
  rw [List.drop_eq_getElem_cons h]; simp [gr, List.getD, h]
/-- Runs that rise, none empty, none touching; the first beyond e. -/
def okFrom : Int → List Run → Bool
  | _, [] => true
  | e, r :: l => decide (r.1 < r.2) && (decide (e < r.1) && okFrom r.2 l)
def rightB (l : List Run) : Bool := okFrom (-1) l
def pe (l : List Run) (j : Nat) : Int := if j = 0 then -1 else (gr l (j - 1)).2
theorem pe_succ (l : List Run) (j : Nat) : pe l (j + 1) = (gr l j).2 := by simp [pe]
/-- The place of the first run that ends beyond p. -/
def placeN (p : Int) : List Run → Nat
  | [] => 0
  | r :: l => if p < r.2 then 0 else placeN p l + 1
theorem placeN_le (p : Int) : ∀ l, placeN p l ≤ l.length
  | [] => Nat.le_refl _
  | r :: l => by unfold placeN; split <;> simp <;> have := placeN_le p l <;> omega
def hasB (p : Int) (l : List Run) : Bool := l.any fun r => decide (p ≥ r.1) && decide (p < r.2)
def countI : List Run → Int
  | [] => 0
  | r :: l => (r.2 - r.1) + countI l
def mkR (a b : Int) : List Run := if a ≥ b then [] else [(a, b)]
theorem okFrom_beyond : ∀ {e : Int} {l : List Run}, okFrom e l = true → ∀ r ∈ l, e < r.1 ∧ r.1 < r.2
  | e, [], _, r, hr => by cases hr
  | e, r0 :: l, h, r, hr => by
    simp only [okFrom, Bool.and_eq_true, decide_eq_true_eq] at h
    rcases List.mem_cons.1 hr with rfl | hr
    · exact ⟨h.2.1, h.1⟩
    · have := okFrom_beyond h.2.2 r hr; exact ⟨by omega, this.2⟩
theorem has_place : ∀ {e : Int} {l : List Run} {p : Int}, okFrom e l = true → hasB p l = (decide (placeN p l < l.length) && decide (p ≥ (gr l (placeN p l)).1))
  | e, [], p, _ => by simp [hasB, placeN]
  | e, r :: l, p, h => by
    simp only [okFrom, Bool.and_eq_true, decide_eq_true_eq] at h
    by_cases hp : p < r.2
    · have hno : (l.any fun r => decide (p ≥ r.1) && decide (p < r.2)) = false := by
        rw [List.any_eq_false]
        intro x hx
        have := okFrom_beyond h.2.2 x hx
        simp; intro; omega
      simp [hasB, placeN, hp, hno, gr_zero]
    · have ih := has_place (p := p) h.2.2
      simp only [hasB, List.any_cons, hp, decide_false, Bool.and_false, Bool.false_or, placeN, if_false, List.length_cons, Nat.add_lt_add_iff_right, gr_succ] at ih ⊢
      exact ih
end Go.V.Rn
namespace Go.V.Rn
open Go.V
def setTo (l : List Run) (i : Nat) (z : Int) : List Run := l.set i ((gr l i).1, z)
theorem setTo_len (l : List Run) (i : Nat) (z : Int) : (setTo l i z).length = l.length := by simp [setTo]
theorem rc_setTo : ∀ (l : List Run) (i : Nat) (z : Int), i < l.length → rc (setTo l i z) = (rc l).set (i * 2 + 1) (.int .u32 z)
  | [], i, z, h => by simp at h
  | r :: l, 0, z, _ => by simp [setTo, rc, gr_zero]
  | r :: l, i + 1, z, h => by
    have := rc_setTo l i z (by simpa using h)
    simp only [setTo, List.set_cons_succ, gr_succ, rc, List.flatMap_cons] at this ⊢
    rw [this, show (i + 1) * 2 + 1 = (i * 2 + 1) + 2 by omega]
    rfl
theorem U32.setTo {l : List Run} (h : U32 l) {i : Nat} {z : Int} (hz : 0 ≤ z ∧ z ≤ 4294967295) : U32 (setTo l i z) := by
  intro r hr
  rcases List.mem_or_eq_of_mem_set hr with h' | rfl
  · exact h r h'
  · have := h.get i; exact ⟨this.1, this.2.1, hz.1, hz.2⟩
theorem gr_app_right (l : List Run) (r : Run) : gr (l ++ [r]) l.length = r := by simp [gr]
theorem setTo_same {l : List Run} {i : Nat} (h : i < l.length) : setTo l i (gr l i).2 = l := by
  have : ((gr l i).1, (gr l i).2) = l[i] := by simp [gr, h]
  unfold setTo; rw [this]; simp
def lastTo (l : List Run) : Int := (gr l (l.length - 1)).2
/-- One more run, behind all that began before it. -/
def addR (l : List Run) (r : Run) : List Run := if 0 < l.length ∧ r.1 ≤ lastTo l then setTo l (l.length - 1) (iMax (lastTo l) r.2) else l ++ [r]
theorem iMax_range {a b : Int} (ha : 0 ≤ a ∧ a ≤ 4294967295) (hb : 0 ≤ b ∧ b ≤ 4294967295) : 0 ≤ iMax a b ∧ iMax a b ≤ 4294967295 := by unfold iMax; split <;> assumption
theorem addR_u32 {l : List Run} {r : Run} (h : U32 l) (hr : 0 ≤ r.1 ∧ r.1 ≤ 4294967295 ∧ 0 ≤ r.2 ∧ r.2 ≤ 4294967295) : U32 (addR l r) := by
  unfold addR; split
  · exact h.setTo (iMax_range (h.get _).2.2 hr.2.2)
  · exact h.app fun x hx => by simp at hx; subst hx; exact hr
theorem addR_len {l : List Run} {r : Run} : (addR l r).length ≤ l.length + 1 := by
  unfold addR; split <;> simp [setTo_len]
def bothF : List Run → List Run → List Run → List Run
  | out, [], [] => out
  | out, a :: as, [] => bothF (addR out a) as []
  | out, [], b :: bs => bothF (addR out b) [] bs
  | out, a :: as, b :: bs => if a.1 ≤ b.1 then bothF (addR out a) as (b :: bs) else bothF (addR out b) (a :: as) bs
termination_by _ a b => a.length + b.length
def bothR (a b : List Run) : List Run := bothF [] a b
theorem U32.tail {r : Run} {l : List Run} (h : U32 (r :: l)) : U32 l := fun x hx => h x (List.mem_cons_of_mem _ hx)
theorem U32.head {r : Run} {l : List Run} (h : U32 (r :: l)) : 0 ≤ r.1 ∧ r.1 ≤ 4294967295 ∧ 0 ≤ r.2 ∧ r.2 ≤ 4294967295 := h r List.mem_cons_self
theorem bothF_u32 : ∀ {out a b : List Run}, U32 out → U32 a → U32 b → U32 (bothF out a b) ∧ (bothF out a b).length ≤ out.length + a.length + b.length
  | out, [], [], h, _, _ => by rw [bothF]; exact ⟨h, by simp⟩
  | out, a :: as, [], h, ha, hb => by
    rw [bothF]; have := bothF_u32 (addR_u32 h ha.head) ha.tail hb
    have := @addR_len out a; simp only [List.length_cons, List.length_nil] at *; exact ⟨by simp_all, by omega⟩
  | out, [], b :: bs, h, ha, hb => by
    rw [bothF]; have := bothF_u32 (addR_u32 h hb.head) ha hb.tail
    have := @addR_len out b; simp only [List.length_cons, List.length_nil] at *; exact ⟨by simp_all, by omega⟩
  | out, a :: as, b :: bs, h, ha, hb => by
    rw [bothF]; split
    · have := bothF_u32 (addR_u32 h ha.head) ha.tail hb
      have := @addR_len out a; simp only [List.length_cons] at *; exact ⟨by simp_all, by omega⟩
    · have := bothF_u32 (addR_u32 h hb.head) ha hb.tail
      have := @addR_len out b; simp only [List.length_cons] at *; exact ⟨by simp_all, by omega⟩
termination_by _ a b => a.length + b.length
theorem countI_range : ∀ {e : Int} {l : List Run}, okFrom e l = true → U32 l → -1 ≤ e → e ≤ 4294967295 → 0 ≤ countI l ∧ countI l ≤ 4294967295 - e
  | e, [], _, _, _, he => by simp [countI]; omega
  | e, r :: l, h, hu, h1, h2 => by
    simp only [okFrom, Bool.and_eq_true, decide_eq_true_eq] at h
    have hr := hu.head
    have := countI_range h.2.2 hu.tail (by omega) (by omega)
    simp only [countI]; omega
end Go.V.Rn
namespace Go.V.Rn
open Go.V
/-- What is left when the first page is taken. -/
def takeR : List Run → List Run
  | [] => []
  | r :: l => mkR (r.1 + 1) r.2 ++ l
/-- A right list is short. -/
theorem okFrom_len : ∀ {e : Int} {l : List Run}, okFrom e l = true → U32 l → e ≤ 4294967295 → (l.length : Int) * 2 ≤ 4294967295 - e
  | e, [], _, _, he => by simp; omega
  | e, r :: l, h, hu, he => by
    simp only [okFrom, Bool.and_eq_true, decide_eq_true_eq] at h
    have hr := hu.head
    have := okFrom_len h.2.2 hu.tail (by omega)
    simp only [List.length_cons]; omega
theorem right_len {l : List Run} (h : rightB l = true) (hu : U32 l) : l.length ≤ 2147483648 := by have := okFrom_len h hu (by omega); omega
end Go.V.Rn
