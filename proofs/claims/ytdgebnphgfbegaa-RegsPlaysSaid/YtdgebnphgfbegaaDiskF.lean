/- Layer 8: calls as the laws have them, opened; the law DiskNone. -/
import Derived.Test.YtdgebnphgfbegaaDiskE
import Derived.Test.YtdgebnphgfbegaaFrame
namespace Go.Proofs.Ytdgebnphgfbegaa
open Go.V Go.V.Dk
structure OpV where
  kind : Int
  i : Int
  at_ : Int
  b : Sl
  masks : Sl
  bs : List Int
  ms : List Int
def OpV.c (o : OpV) : List Value := [.int .i64 o.kind, .int .i64 o.i, .int .i64 o.at_, o.b.v, o.masks.v]
def I64 (n : Int) : Prop := -9223372036854775808 ≤ n ∧ n ≤ 9223372036854775807
structure OpV.ok (h : Array Obj) (o : OpV) : Prop where
  k : I64 o.kind
  i : I64 o.i
  a : I64 o.at_
  rb : RdB h o.b o.bs
  b8 : B8 o.bs
  rm : RdB h o.masks o.ms
  m8 : B8 o.ms
section
variable {H : Type} {enc : TypeId × Value → H} {W : World}
theorem i64_wf {n : Int} (h : (Lit.int .i64 n).wf = true) : I64 n := by simpa [I64, Lit.wf, IntKind.min, IntKind.max, IntKind.signed, IntKind.bits] using h
theorem op_ty {es : List Value} (hl : es.length = 5) (hr : TyR enc Try.prog W T_donjonlaw08_Op es) : ∃ o : OpV, es = o.c ∧ o.ok W.heap := by
  obtain ⟨v0, g0, t0⟩ := hr.fld 0 (o := 0) (n := 5) (by kernel_rfl) (by kernel_rfl) (by kernel_rfl) (by kernel_rfl) (by kernel_rfl) (by decide)
  obtain ⟨v1, g1, t1⟩ := hr.fld 1 (o := 1) (n := 5) (by kernel_rfl) (by kernel_rfl) (by kernel_rfl) (by kernel_rfl) (by kernel_rfl) (by decide)
  obtain ⟨v2, g2, t2⟩ := hr.fld 2 (o := 2) (n := 5) (by kernel_rfl) (by kernel_rfl) (by kernel_rfl) (by kernel_rfl) (by kernel_rfl) (by decide)
  obtain ⟨v3, g3, t3⟩ := hr.fld 3 (o := 3) (n := 5) (by kernel_rfl) (by kernel_rfl) (by kernel_rfl) (by kernel_rfl) (by kernel_rfl) (by decide)
  obtain ⟨v4, g4, t4⟩ := hr.fld 4 (o := 4) (n := 5) (by kernel_rfl) (by kernel_rfl) (by kernel_rfl) (by kernel_rfl) (by kernel_rfl) (by decide)
  obtain ⟨n0, e0, b0⟩ := t0.int (k := .i64) (by kernel_rfl)
  obtain ⟨n1, e1, b1⟩ := t1.int (k := .i64) (by kernel_rfl)
  obtain ⟨n2, e2, b2⟩ := t2.int (k := .i64) (by kernel_rfl)
  obtain ⟨s3, e3, ess3, el3⟩ := TyR.slice (e := T_uint8) (by kernel_rfl) t3
  obtain ⟨s4, e4, ess4, el4⟩ := TyR.slice (e := T_uint8) (by kernel_rfl) t4
  obtain ⟨l3, r3, h3⟩ := el3.bytes (by kernel_rfl) (by kernel_rfl)
  obtain ⟨l4, r4, h4⟩ := el4.bytes (by kernel_rfl) (by kernel_rfl)
  cases e0; cases e1; cases e2; cases e3; cases e4
  refine ⟨⟨n0, n1, n2, s3, s4, l3, l4⟩, ?_, i64_wf b0, i64_wf b1, i64_wf b2, r3, h3, r4, h4⟩
  match es, hl, g0, g1, g2, g3, g4 with
  | [a, b, c, d, e], _, g0, g1, g2, g3, g4 => simp at g0 g1 g2 g3 g4; simp [OpV.c, g0, g1, g2, g3, g4]
theorem ops_open {s : Sl} {ess : List (List Value)} (h : Elems enc Try.prog W T_donjonlaw08_Op s ess) : ∃ l : List OpV, l.length = s.len ∧ Rd W.heap s 5 (l.flatMap OpV.c) ∧ ∀ o ∈ l, o.ok W.heap :=
  h.list OpV.c (OpV.ok W.heap) (fun es hl hr => op_ty (by rw [hl]; kernel_rfl) hr) (sz := 5) (by kernel_rfl) (by decide) (fun x _ v hv => by simp [OpV.c] at hv; rcases hv with rfl | rfl | rfl | rfl | rfl <;> rfl)
end
theorem diskNone_spec {w : World} {o : OpV} : C_law08_DiskNone o.kind o.i o.at_ o.b o.masks w fun b w' => b = true ∧ Ext No w w' := by
  apply S_law08_DiskNone
  intro b w1 new
  refine ⟨o.i, Cell.lst new.get rfl, ?_⟩
  apply S_disk_Disk_Fail
  refine If.not (If.yes ⟨o.i, Cell.lst new.get rfl, ?_⟩)
  apply S_disk_Disk_Cut
  refine If.not (If.yes ⟨o.i, Cell.lst new.get rfl, ?_⟩)
  apply S_disk_Disk_Read
  refine If.yes ⟨o.i, Cell.lst new.get rfl, ?_⟩
  apply S_disk_Disk_Firm
  refine If.yes ⟨fun w' => w' = w1, ?_, ?_⟩
  · refine If.bne (fun h => absurd rfl h) fun _ => If.bne (fun h => absurd rfl h) fun _ => If.bne (fun h => absurd rfl h) fun _ => If.bne (fun h => absurd rfl h) fun _ => ?_
    apply S_disk_Disk_Blocks
    refine If.yes (If.bne (fun h => absurd rfl h) fun _ => ?_)
    apply S_disk_Disk_Steps
    refine If.yes (If.bne (fun h => absurd rfl h) fun _ => ?_)
    apply S_disk_Disk_Waiting
    refine If.yes (If.bne (fun h => absurd rfl h) fun _ => ?_)
    apply S_disk_Disk_Down
    refine If.not (If.yes (If.no ?_))
    apply S_disk_Disk_Fork
    exact If.yes (If.not (If.yes rfl))
  · rintro _ w1 rfl
    refine ⟨o.i, Cell.lst new.get rfl, o.b, Cell.lst new.get rfl, ?_⟩
    apply S_disk_Disk_Write
    refine If.yes (If.beq (fun _ => ?_) (fun h => absurd rfl h))
    apply S_disk_Disk_Sync
    refine If.yes (If.beq (fun _ => ?_) (fun h => absurd rfl h))
    apply S_disk_Disk_Step
    refine If.yes (If.beq (fun _ => ⟨o.masks, Cell.lst new.get rfl, ?_⟩) (fun h => absurd rfl h))
    apply S_disk_Disk_Crash
    refine If.yes (If.beq (fun _ => ⟨o.i, Cell.lst new.get rfl, o.at_, Cell.lst new.get rfl, o.b, Cell.lst new.get rfl, ?_⟩) (fun h => absurd rfl h))
    apply S_disk_Disk_Foreign
    exact If.yes (If.beq (fun _ => known8_spec fun w' x => ⟨rfl, new.ext.no x⟩) (fun h => absurd rfl h))
end Go.Proofs.Ytdgebnphgfbegaa
