/- The texts of the Go functions for the calculus, written by a program (gen.py). -/
import Derived.Test.YtomlobgpeobnfaaProg
import Derived.Test.YtomlobgpeobnfaaWpcB
set_option maxRecDepth 100000
namespace Go.Proofs.Ytomlobgpeobnfaa
open Go.V
def C_law11_RunsTakes (l : Sl) (w : World) (K : Bool → World → Prop) : Prop :=
  Calls Try.prog 3 #[.slice l.a l.len l.cap] w fun e w' => ∃ r0 : Bool, e = .returned (.bool r0) ∧ K r0 w'
def C_law11_RunsBoth (a : Sl) (b : Sl) (w : World) (K : Bool → World → Prop) : Prop :=
  Calls Try.prog 4 #[.slice a.a a.len a.cap, .slice b.a b.len b.cap] w fun e w' => ∃ r0 : Bool, e = .returned (.bool r0) ∧ K r0 w'
def C_law11_RunsSets (a : Sl) (b : Sl) (c : Sl) (w : World) (K : Bool → World → Prop) : Prop :=
  Calls Try.prog 5 #[.slice a.a a.len a.cap, .slice b.a b.len b.cap, .slice c.a c.len c.cap] w fun e w' => ∃ r0 : Bool, e = .returned (.bool r0) ∧ K r0 w'
def C_law11_RunsMake (fromv : Int) (to : Int) (l : Sl) (p : Int) (w : World) (K : Bool → World → Prop) : Prop :=
  Calls Try.prog 6 #[.int .u32 fromv, .int .u32 to, .slice l.a l.len l.cap, .int .u32 p] w fun e w' => ∃ r0 : Bool, e = .returned (.bool r0) ∧ K r0 w'
def C_law11_RunsTaken (l : Sl) (w : World) (K : Bool → World → Prop) : Prop :=
  Calls Try.prog 7 #[.slice l.a l.len l.cap] w fun e w' => ∃ r0 : Bool, e = .returned (.bool r0) ∧ K r0 w'
def C_law11_RunsGives (l : Sl) (p : Int) (w : World) (K : Bool → World → Prop) : Prop :=
  Calls Try.prog 8 #[.slice l.a l.len l.cap, .int .u32 p] w fun e w' => ∃ r0 : Bool, e = .returned (.bool r0) ∧ K r0 w'
def C_law11_RunsEncodes (l : Sl) (w : World) (K : Bool → World → Prop) : Prop :=
  Calls Try.prog 9 #[.slice l.a l.len l.cap] w fun e w' => ∃ r0 : Bool, e = .returned (.bool r0) ∧ K r0 w'
def C_law11_RunsPages (l : Sl) (most : Int) (w : World) (K : Bool → World → Prop) : Prop :=
  Calls Try.prog 10 #[.slice l.a l.len l.cap, .int .i64 most] w fun e w' => ∃ r0 : Bool, e = .returned (.bool r0) ∧ K r0 w'
def C_law11_RunsDecodes (b : Sl) (w : World) (K : Bool → World → Prop) : Prop :=
  Calls Try.prog 11 #[.slice b.a b.len b.cap] w fun e w' => ∃ r0 : Bool, e = .returned (.bool r0) ∧ K r0 w'
def C_law11_RunsBack (l : Sl) (p : Int) (q : Int) (w : World) (K : Bool → World → Prop) : Prop :=
  Calls Try.prog 12 #[.slice l.a l.len l.cap, .int .u32 p, .int .u32 q] w fun e w' => ∃ r0 : Bool, e = .returned (.bool r0) ∧ K r0 w'
def C_law11_own (l : Sl) (w : World) (K : Sl → World → Prop) : Prop :=
  Calls Try.prog 13 #[.slice l.a l.len l.cap] w fun e w' => ∃ r0 : Sl, e = .returned (.slice r0.a r0.len r0.cap) ∧ K r0 w'
def C_runs_Take (l : Sl) (w : World) (K : Int → Sl → Int → World → Prop) : Prop :=
  Calls Try.prog 14 #[.slice l.a l.len l.cap] w fun e w' => ∃ r0 : Int, ∃ r1 : Sl, ∃ r2 : Int, e = .returned (.tuple #[.int .u32 r0, .slice r1.a r1.len r1.cap, .int .i64 r2]) ∧ K r0 r1 r2 w'
def C_ref11_Same (a : Sl) (b : Sl) (w : World) (K : Bool → World → Prop) : Prop :=
  Calls Try.prog 15 #[.slice a.a a.len a.cap, .slice b.a b.len b.cap] w fun e w' => ∃ r0 : Bool, e = .returned (.bool r0) ∧ K r0 w'
def C_ref11_Right (l : Sl) (w : World) (K : Bool → World → Prop) : Prop :=
  Calls Try.prog 16 #[.slice l.a l.len l.cap] w fun e w' => ∃ r0 : Bool, e = .returned (.bool r0) ∧ K r0 w'
def C_law11_known  (w : World) (K : Bool → World → Prop) : Prop :=
  Calls Try.prog 17 #[] w fun e w' => ∃ r0 : Bool, e = .returned (.bool r0) ∧ K r0 w'
def C_ref11_Drop (l : Sl) (p : Int) (w : World) (K : Sl → World → Prop) : Prop :=
  Calls Try.prog 18 #[.slice l.a l.len l.cap, .int .u32 p] w fun e w' => ∃ r0 : Sl, e = .returned (.slice r0.a r0.len r0.cap) ∧ K r0 w'
def C_law11_spoil (l : Sl) (w : World) (K : World → Prop) : Prop :=
  Calls Try.prog 19 #[.slice l.a l.len l.cap] w fun e w' => e = .returned (undef) ∧ K w'
def C_runs_Both (a : Sl) (b : Sl) (w : World) (K : Sl → Int → World → Prop) : Prop :=
  Calls Try.prog 20 #[.slice a.a a.len a.cap, .slice b.a b.len b.cap] w fun e w' => ∃ r0 : Sl, ∃ r1 : Int, e = .returned (.tuple #[.slice r0.a r0.len r0.cap, .int .i64 r1]) ∧ K r0 r1 w'
def C_ref11_Both (a : Sl) (b : Sl) (w : World) (K : Sl → World → Prop) : Prop :=
  Calls Try.prog 21 #[.slice a.a a.len a.cap, .slice b.a b.len b.cap] w fun e w' => ∃ r0 : Sl, e = .returned (.slice r0.a r0.len r0.cap) ∧ K r0 w'
def C_runs_Right (l : Sl) (w : World) (K : Bool → World → Prop) : Prop :=
  Calls Try.prog 22 #[.slice l.a l.len l.cap] w fun e w' => ∃ r0 : Bool, e = .returned (.bool r0) ∧ K r0 w'
def C_law11_same (a : Sl) (b : Sl) (w : World) (K : Bool → World → Prop) : Prop :=
  Calls Try.prog 23 #[.slice a.a a.len a.cap, .slice b.a b.len b.cap] w fun e w' => ∃ r0 : Bool, e = .returned (.bool r0) ∧ K r0 w'
def C_runs_Make (fromv : Int) (to : Int) (w : World) (K : Sl → World → Prop) : Prop :=
  Calls Try.prog 24 #[.int .u32 fromv, .int .u32 to] w fun e w' => ∃ r0 : Sl, e = .returned (.slice r0.a r0.len r0.cap) ∧ K r0 w'
def C_runs_Count (l : Sl) (w : World) (K : Int → Int → World → Prop) : Prop :=
  Calls Try.prog 25 #[.slice l.a l.len l.cap] w fun e w' => ∃ r0 : Int, ∃ r1 : Int, e = .returned (.tuple #[.int .u64 r0, .int .i64 r1]) ∧ K r0 r1 w'
def C_runs_Has (l : Sl) (p : Int) (w : World) (K : Bool → Int → World → Prop) : Prop :=
  Calls Try.prog 26 #[.slice l.a l.len l.cap, .int .u32 p] w fun e w' => ∃ r0 : Bool, ∃ r1 : Int, e = .returned (.tuple #[.bool r0, .int .i64 r1]) ∧ K r0 r1 w'
def C_ref11_Count (l : Sl) (w : World) (K : Int → World → Prop) : Prop :=
  Calls Try.prog 27 #[.slice l.a l.len l.cap] w fun e w' => ∃ r0 : Int, e = .returned (.int .u64 r0) ∧ K r0 w'
def C_ref11_Has (l : Sl) (p : Int) (w : World) (K : Bool → World → Prop) : Prop :=
  Calls Try.prog 28 #[.slice l.a l.len l.cap, .int .u32 p] w fun e w' => ∃ r0 : Bool, e = .returned (.bool r0) ∧ K r0 w'
def C_runs_Give (l : Sl) (p : Int) (w : World) (K : Sl → Int → World → Prop) : Prop :=
  Calls Try.prog 29 #[.slice l.a l.len l.cap, .int .u32 p] w fun e w' => ∃ r0 : Sl, ∃ r1 : Int, e = .returned (.tuple #[.slice r0.a r0.len r0.cap, .int .i64 r1]) ∧ K r0 r1 w'
def C_runs_Drop (l : Sl) (p : Int) (w : World) (K : Sl → Int → World → Prop) : Prop :=
  Calls Try.prog 30 #[.slice l.a l.len l.cap, .int .u32 p] w fun e w' => ∃ r0 : Sl, ∃ r1 : Int, e = .returned (.tuple #[.slice r0.a r0.len r0.cap, .int .i64 r1]) ∧ K r0 r1 w'
def C_ref11_Give (l : Sl) (p : Int) (w : World) (K : Sl → World → Prop) : Prop :=
  Calls Try.prog 31 #[.slice l.a l.len l.cap, .int .u32 p] w fun e w' => ∃ r0 : Sl, e = .returned (.slice r0.a r0.len r0.cap) ∧ K r0 w'
def C_runs_Encode (l : Sl) (w : World) (K : Sl → Int → World → Prop) : Prop :=
  Calls Try.prog 32 #[.slice l.a l.len l.cap] w fun e w' => ∃ r0 : Sl, ∃ r1 : Int, e = .returned (.tuple #[.slice r0.a r0.len r0.cap, .int .i64 r1]) ∧ K r0 r1 w'
def C_ref01_Same (a : Sl) (b : Sl) (w : World) (K : Bool → World → Prop) : Prop :=
  Calls Try.prog 33 #[.slice a.a a.len a.cap, .slice b.a b.len b.cap] w fun e w' => ∃ r0 : Bool, e = .returned (.bool r0) ∧ K r0 w'
def C_ref11_Encode (l : Sl) (w : World) (K : Sl → World → Prop) : Prop :=
  Calls Try.prog 34 #[.slice l.a l.len l.cap] w fun e w' => ∃ r0 : Sl, e = .returned (.slice r0.a r0.len r0.cap) ∧ K r0 w'
def C_runs_Pages (l : Sl) (most : Int) (w : World) (K : Sl → Int → World → Prop) : Prop :=
  Calls Try.prog 35 #[.slice l.a l.len l.cap, .int .i64 most] w fun e w' => ∃ r0 : Sl, ∃ r1 : Int, e = .returned (.tuple #[.slice r0.a r0.len r0.cap, .int .i64 r1]) ∧ K r0 r1 w'
def C_ref11_Pages (l : Sl) (w : World) (K : Sl → World → Prop) : Prop :=
  Calls Try.prog 36 #[.slice l.a l.len l.cap] w fun e w' => ∃ r0 : Sl, e = .returned (.slice r0.a r0.len r0.cap) ∧ K r0 w'
def C_runs_Decode (b : Sl) (w : World) (K : Sl → Int → Int → World → Prop) : Prop :=
  Calls Try.prog 37 #[.slice b.a b.len b.cap] w fun e w' => ∃ r0 : Sl, ∃ r1 : Int, ∃ r2 : Int, e = .returned (.tuple #[.slice r0.a r0.len r0.cap, .int .i64 r1, .int .i64 r2]) ∧ K r0 r1 r2 w'
def C_ref01_Copy (b : Sl) (w : World) (K : Sl → World → Prop) : Prop :=
  Calls Try.prog 38 #[.slice b.a b.len b.cap] w fun e w' => ∃ r0 : Sl, e = .returned (.slice r0.a r0.len r0.cap) ∧ K r0 w'
def C_ref11_Decode (b : Sl) (w : World) (K : Sl → Int → Int → World → Prop) : Prop :=
  Calls Try.prog 39 #[.slice b.a b.len b.cap] w fun e w' => ∃ r0 : Sl, ∃ r1 : Int, ∃ r2 : Int, e = .returned (.tuple #[.slice r0.a r0.len r0.cap, .int .i64 r1, .int .i64 r2]) ∧ K r0 r1 r2 w'
def C_runs_add (l : Sl) (r0 : Int) (r1 : Int) (w : World) (K : Sl → World → Prop) : Prop :=
  Calls Try.prog 40 #[.slice l.a l.len l.cap, .agg ([.int .u32 r0, .int .u32 r1]).toArray] w fun e w' => ∃ r0_1 : Sl, e = .returned (.slice r0_1.a r0_1.len r0_1.cap) ∧ K r0_1 w'
def C_runs_place (l : Sl) (p : Int) (w : World) (K : Int → World → Prop) : Prop :=
  Calls Try.prog 41 #[.slice l.a l.len l.cap, .int .u32 p] w fun e w' => ∃ r0 : Int, e = .returned (.int .i64 r0) ∧ K r0 w'
def C_ref11_grown (l : Sl) (p : Int) (w : World) (K : Sl → World → Prop) : Prop :=
  Calls Try.prog 42 #[.slice l.a l.len l.cap, .int .u32 p] w fun e w' => ∃ r0 : Sl, e = .returned (.slice r0.a r0.len r0.cap) ∧ K r0 w'
def C_pack_Num (n : Int) (w : World) (K : Sl → World → Prop) : Prop :=
  Calls Try.prog 43 #[.int .u64 n] w fun e w' => ∃ r0 : Sl, e = .returned (.slice r0.a r0.len r0.cap) ∧ K r0 w'
def C_ref07_Num (n : Int) (w : World) (K : Sl → World → Prop) : Prop :=
  Calls Try.prog 44 #[.int .u64 n] w fun e w' => ∃ r0 : Sl, e = .returned (.slice r0.a r0.len r0.cap) ∧ K r0 w'
def C_pack_NewReader (b : Sl) (w : World) (K : Option Addr → World → Prop) : Prop :=
  Calls Try.prog 45 #[.slice b.a b.len b.cap] w fun e w' => ∃ r0 : Option Addr, e = .returned (.pointer r0) ∧ K r0 w'
def C_runs_Decode_1 (least : Int) (endv : Int) (c0 : Addr) (c1 : Addr) (c2 : Addr) (c3 : Addr) (w : World) (K : Int → Bool → World → Prop) : Prop :=
  Calls Try.prog 46 #[.int .u64 least, .int .u64 endv, .pointer (some c0), .pointer (some c1), .pointer (some c2), .pointer (some c3)] w fun e w' => ∃ r0 : Int, ∃ r1 : Bool, e = .returned (.tuple #[.int .u64 r0, .bool r1]) ∧ K r0 r1 w'
def C_pack_Reader_Left (r : Option Addr) (w : World) (K : Int → World → Prop) : Prop :=
  Calls Try.prog 47 #[.pointer r] w fun e w' => ∃ r0 : Int, e = .returned (.int .i64 r0) ∧ K r0 w'
def C_pack_Reader_Num (r : Option Addr) (w : World) (K : Int → World → Prop) : Prop :=
  Calls Try.prog 48 #[.pointer r] w fun e w' => ∃ r0 : Int, e = .returned (.int .u64 r0) ∧ K r0 w'
def C_pack_Reader_Done (r : Option Addr) (w : World) (K : Int → Int → World → Prop) : Prop :=
  Calls Try.prog 49 #[.pointer r] w fun e w' => ∃ r0 : Int, ∃ r1 : Int, e = .returned (.tuple #[.int .i64 r0, .int .i64 r1]) ∧ K r0 r1 w'
def C_ref07_Taken (b : Sl) (w : World) (K : Int → Int → Int → World → Prop) : Prop :=
  Calls Try.prog 50 #[.slice b.a b.len b.cap] w fun e w' => ∃ r0 : Int, ∃ r1 : Int, ∃ r2 : Int, e = .returned (.tuple #[.int .u64 r0, .int .i64 r1, .int .i64 r2]) ∧ K r0 r1 r2 w'
def C_pack_Reader_ok (r : Option Addr) (w : World) (K : Bool → World → Prop) : Prop :=
  Calls Try.prog 51 #[.pointer r] w fun e w' => ∃ r0 : Bool, e = .returned (.bool r0) ∧ K r0 w'
def C_pack_Reader_number (r : Option Addr) (atv : Int) (w : World) (K : Int → Int → Int → World → Prop) : Prop :=
  Calls Try.prog 52 #[.pointer r, .int .i64 atv] w fun e w' => ∃ r0 : Int, ∃ r1 : Int, ∃ r2 : Int, e = .returned (.tuple #[.int .u64 r0, .int .i64 r1, .int .i64 r2]) ∧ K r0 r1 r2 w'

def F_law11_own (l : Sl) (w : World) (K : Sl → World → Prop) : Prop :=
  Ar .i64 (((l.len : Int)) + 2) fun z =>
  MkW w 32 [.int .u32 0, .int .u32 0] 8 ((l.len : Int)) z fun s w1 =>
  CopyW Try.prog 22 22 s (.slice l.a l.len l.cap) (fun _z_1 w2 =>
  K s w2) w1
def A_law11_own : Ann := (.seq .nil (.seq .nil (.seq .nil (.seq .nil .nil))))
theorem S_law11_own {l : Sl} {w : World} {K : Sl → World → Prop} (h : F_law11_own l w K) : C_law11_own l w K := by
  have h1 : wpc Try.prog A_law11_own (Try.f13.body.getD .skip) (retK Try.prog [.one (.sl)] Try.f13.results.toList K) (argEnv [.slice l.a l.len l.cap]) w := cast (by kernel_rfl : F_law11_own l w K = wpc Try.prog A_law11_own (Try.f13.body.getD .skip) (retK Try.prog [.one (.sl)] Try.f13.results.toList K) (argEnv [.slice l.a l.len l.cap]) w) h
  have h2 : chk Try.prog Try.f13.ntmps A_law11_own (Try.f13.body.getD .skip) = true := by kernel_rfl
  have h4 : Nat.ble (List.length (α := Value) [.slice l.a l.len l.cap]) Try.f13.ntmps = true := by kernel_rfl
  have h5 : Try.f13.body = some (Try.f13.body.getD .skip) := by kernel_rfl
  have h6 := @fn_sound Try.prog 13 Try.f13 (Try.f13.body.getD .skip) A_law11_own [.slice l.a l.len l.cap] [.one (.sl)] K w Try.func13 h5 h2 h4 h1
  exact cast (by kernel_rfl : callK Try.prog 13 (List.toArray (α := Value) [.slice l.a l.len l.cap]) [.one (.sl)] K w = C_law11_own l w K) h6

def F_runs_Right (l : Sl) (w : World) (K : Bool → World → Prop) : Prop :=
  ∃ I0 : Nat → Int → World → Prop, (∃ m, I0 m 0 w) ∧ ∀ (_ : Env) (m0 : Nat) (t : Int) (w1 : World), I0 m0 t w1 →
  If (decide (t < ((l.len : Int)))) (
  Ix l.a l.len t 2 fun a =>
  ∃ c : Int, Cell w1 a (.int .u32 c) ∧
  ∃ c_1 : Int, Cell w1 (a.add 1) (.int .u32 c_1) ∧
  NewW w1 (.cells [.int .u32 0, .int .u32 0].toArray 32) fun b w2 =>
  List.length (α := Value) [.int .u32 c, .int .u32 c_1] = 2 ∧ StN w2 (Addr.mk b 0 none) [.int .u32 c, .int .u32 c_1] fun w3 =>
  ∃ S : World → Prop, S (drewW w3) ∧
  ∃ vv : Int, Held S (Addr.mk b 0 none) (.int .u32 vv) ∧
  ∃ vv_1 : Int, Held S ((Addr.mk b 0 none).add 1) (.int .u32 vv_1) ∧
  If (decide (vv ≥ vv_1)) (
  K false ((drewW w3))) (
  If (decide (t > 0)) (
  ∃ vv_2 : Int, Held S (Addr.mk b 0 none) (.int .u32 vv_2) ∧
  Ar .i64 (t - 1) fun z =>
  Ix l.a l.len z 2 fun a_1 =>
  ∃ vv_3 : Int, Held S (a_1.add 1) (.int .u32 vv_3) ∧
  If (decide (vv_2 ≤ vv_3)) (
  K false ((drewW w3))) (
  Ar .i64 (t + 1) fun z_1 =>
  ∃ m1, m1 < m0 ∧ I0 m1 z_1 ((drewW w3)))) (
  Ar .i64 (t + 1) fun z_2 =>
  ∃ m1, m1 < m0 ∧ I0 m1 z_2 ((drewW w3))))) (
  K true w1)
def A_runs_Right : Ann := (.seq .nil (.seq (.seq .nil (.block (.loop [(7, .int .i64)] 8589934492 (.seq .nil (.seq (.cond .nil .nil) (.seq (.block (.seq .nil (.seq (.draw (.take 0 (.take 1 (.take 2 (.take 3 (.take 4 (.take 5 (.take 6 (.take 7 (.take 8 (.take 9 (.take 10 (.take 11 (.take 12 (.take 13 (.take 14 (.take 15 (.take 16 (.take 17 (.take 18 (.take 19 .fin))))))))))))))))))))) (.cond (.seq .nil .nil) .nil)))) .nil)))))) (.seq .nil .nil)))
theorem S_runs_Right {l : Sl} {w : World} {K : Bool → World → Prop} (h : F_runs_Right l w K) : C_runs_Right l w K := by
  have h1 : wpc Try.prog A_runs_Right (Try.f22.body.getD .skip) (retK Try.prog [.one (.bool)] Try.f22.results.toList K) (argEnv [.slice l.a l.len l.cap]) w := cast (by kernel_rfl : F_runs_Right l w K = wpc Try.prog A_runs_Right (Try.f22.body.getD .skip) (retK Try.prog [.one (.bool)] Try.f22.results.toList K) (argEnv [.slice l.a l.len l.cap]) w) h
  have h2 : chk Try.prog Try.f22.ntmps A_runs_Right (Try.f22.body.getD .skip) = true := by kernel_rfl
  have h4 : Nat.ble (List.length (α := Value) [.slice l.a l.len l.cap]) Try.f22.ntmps = true := by kernel_rfl
  have h5 : Try.f22.body = some (Try.f22.body.getD .skip) := by kernel_rfl
  have h6 := @fn_sound Try.prog 22 Try.f22 (Try.f22.body.getD .skip) A_runs_Right [.slice l.a l.len l.cap] [.one (.bool)] K w Try.func22 h5 h2 h4 h1
  exact cast (by kernel_rfl : callK Try.prog 22 (List.toArray (α := Value) [.slice l.a l.len l.cap]) [.one (.bool)] K w = C_runs_Right l w K) h6

def F_runs_Make (fromv : Int) (to : Int) (w : World) (K : Sl → World → Prop) : Prop :=
  If (decide (fromv ≥ to)) (
  K ⟨none, 0, 0⟩ w) (
  NewW w (.cells [.int .u32 fromv, .int .u32 to].toArray 32) fun b w1 =>
  K ⟨some (Addr.mk b 0 none), 1, 1⟩ w1)
def A_runs_Make : Ann := (.seq .nil (.seq (.seq .nil (.cond (.seq .nil .nil) .nil)) (.seq .nil .nil)))
theorem S_runs_Make {fromv : Int} {to : Int} {w : World} {K : Sl → World → Prop} (h : F_runs_Make fromv to w K) : C_runs_Make fromv to w K := by
  have h1 : wpc Try.prog A_runs_Make (Try.f24.body.getD .skip) (retK Try.prog [.one (.sl)] Try.f24.results.toList K) (argEnv [.int .u32 fromv, .int .u32 to]) w := cast (by kernel_rfl : F_runs_Make fromv to w K = wpc Try.prog A_runs_Make (Try.f24.body.getD .skip) (retK Try.prog [.one (.sl)] Try.f24.results.toList K) (argEnv [.int .u32 fromv, .int .u32 to]) w) h
  have h2 : chk Try.prog Try.f24.ntmps A_runs_Make (Try.f24.body.getD .skip) = true := by kernel_rfl
  have h4 : Nat.ble (List.length (α := Value) [.int .u32 fromv, .int .u32 to]) Try.f24.ntmps = true := by kernel_rfl
  have h5 : Try.f24.body = some (Try.f24.body.getD .skip) := by kernel_rfl
  have h6 := @fn_sound Try.prog 24 Try.f24 (Try.f24.body.getD .skip) A_runs_Make [.int .u32 fromv, .int .u32 to] [.one (.sl)] K w Try.func24 h5 h2 h4 h1
  exact cast (by kernel_rfl : callK Try.prog 24 (List.toArray (α := Value) [.int .u32 fromv, .int .u32 to]) [.one (.sl)] K w = C_runs_Make fromv to w K) h6

def F_runs_Take (l : Sl) (w : World) (K : Int → Sl → Int → World → Prop) : Prop :=
  C_runs_Right l w fun r w1 =>
  If (!r) (
  K 0 ⟨none, 0, 0⟩ 2 w1) (
  If (((l.len : Int)) == 0) (
  K 0 ⟨none, 0, 0⟩ 9 w1) (
  Ix l.a l.len 0 2 fun a =>
  ∃ c : Int, Cell w1 a (.int .u32 c) ∧
  ∃ c_1 : Int, Cell w1 (a.add 1) (.int .u32 c_1) ∧
  NewW w1 (.cells [.int .u32 0, .int .u32 0].toArray 32) fun b w2 =>
  List.length (α := Value) [.int .u32 c, .int .u32 c_1] = 2 ∧ StN w2 (Addr.mk b 0 none) [.int .u32 c, .int .u32 c_1] fun w3 =>
  ∃ vv : Int, Cell w3 (Addr.mk b 0 none) (.int .u32 vv) ∧
  Ar .u32 (vv + 1) fun z =>
  ∃ vv_1 : Int, Cell w3 ((Addr.mk b 0 none).add 1) (.int .u32 vv_1) ∧
  C_runs_Make z vv_1 w3 fun r_1 w4 =>
  AppW Try.prog 22 22 ⟨none, 0, 0⟩ (.slice r_1.a r_1.len r_1.cap) (fun s w5 =>
  ∃ S : World → Prop, S (drewW w5) ∧
  ∃ vv_2 : Int, Held S (Addr.mk b 0 none) (.int .u32 vv_2) ∧
  Cut l 1 (((l.len : Nat) : Int)) (((l.cap : Nat) : Int)) 2 fun s_1 =>
  AppW Try.prog 22 22 s (.slice s_1.a s_1.len s_1.cap) (fun s_2 w6 =>
  S w6 ∧
  K vv_2 s_2 0 w6) (drewW w5)) w4))
def A_runs_Take : Ann := (.seq .nil (.seq (.seq .nil (.cond (.seq .nil .nil) .nil)) (.seq (.seq .nil (.cond (.seq .nil .nil) .nil)) (.seq .nil (.seq .nil (.seq (.draw (.take 0 (.take 1 (.take 2 (.take 3 (.take 4 (.one 5 (.take 6 (.take 7 (.take 8 .fin)))))))))) .nil))))))
theorem S_runs_Take {l : Sl} {w : World} {K : Int → Sl → Int → World → Prop} (h : F_runs_Take l w K) : C_runs_Take l w K := by
  have h1 : wpc Try.prog A_runs_Take (Try.f14.body.getD .skip) (retK Try.prog [.one (.int .u32), .one (.sl), .one (.int .i64)] Try.f14.results.toList K) (argEnv [.slice l.a l.len l.cap]) w := cast (by kernel_rfl : F_runs_Take l w K = wpc Try.prog A_runs_Take (Try.f14.body.getD .skip) (retK Try.prog [.one (.int .u32), .one (.sl), .one (.int .i64)] Try.f14.results.toList K) (argEnv [.slice l.a l.len l.cap]) w) h
  have h2 : chk Try.prog Try.f14.ntmps A_runs_Take (Try.f14.body.getD .skip) = true := by kernel_rfl
  have h4 : Nat.ble (List.length (α := Value) [.slice l.a l.len l.cap]) Try.f14.ntmps = true := by kernel_rfl
  have h5 : Try.f14.body = some (Try.f14.body.getD .skip) := by kernel_rfl
  have h6 := @fn_sound Try.prog 14 Try.f14 (Try.f14.body.getD .skip) A_runs_Take [.slice l.a l.len l.cap] [.one (.int .u32), .one (.sl), .one (.int .i64)] K w Try.func14 h5 h2 h4 h1
  exact cast (by kernel_rfl : callK Try.prog 14 (List.toArray (α := Value) [.slice l.a l.len l.cap]) [.one (.int .u32), .one (.sl), .one (.int .i64)] K w = C_runs_Take l w K) h6

def F_ref11_Same (a : Sl) (b : Sl) (w : World) (K : Bool → World → Prop) : Prop :=
  If (((a.len : Int)) != ((b.len : Int))) (
  K false w) (
  ∃ I0 : Nat → Int → World → Prop, (∃ m, I0 m 0 w) ∧ ∀ (_ : Env) (m0 : Nat) (i : Int) (w1 : World), I0 m0 i w1 →
  If (decide (i < ((a.len : Int)))) (
  ∃ S : World → Prop, S (drewW w1) ∧
  Ix a.a a.len i 2 fun a_1 =>
  ∃ c : Int, Held S a_1 (.int .u32 c) ∧
  ∃ c_1 : Int, Held S (a_1.add 1) (.int .u32 c_1) ∧
  Ix b.a b.len i 2 fun a_2 =>
  ∃ c_2 : Int, Held S a_2 (.int .u32 c_2) ∧
  ∃ c_3 : Int, Held S (a_2.add 1) (.int .u32 c_3) ∧
  If (!((c == c_2) && ((c_1 == c_3) && (true)))) (
  K false ((drewW w1))) (
  Ar .i64 (i + 1) fun z =>
  ∃ m1, m1 < m0 ∧ I0 m1 z ((drewW w1)))) (
  K true w1))
def A_ref11_Same : Ann := (.seq .nil (.seq (.seq .nil (.cond (.seq .nil .nil) .nil)) (.seq (.seq .nil (.block (.loop [(5, .int .i64)] 67106864 (.seq (.seq .nil (.cond .nil .nil)) (.seq (.block (.seq (.draw (.take 0 (.take 1 (.take 2 (.take 3 (.take 4 (.take 5 (.take 6 (.take 7 (.take 8 .fin)))))))))) (.cond (.seq .nil .nil) .nil))) .nil))))) (.seq .nil .nil))))
theorem S_ref11_Same {a : Sl} {b : Sl} {w : World} {K : Bool → World → Prop} (h : F_ref11_Same a b w K) : C_ref11_Same a b w K := by
  have h1 : wpc Try.prog A_ref11_Same (Try.f15.body.getD .skip) (retK Try.prog [.one (.bool)] Try.f15.results.toList K) (argEnv [.slice a.a a.len a.cap, .slice b.a b.len b.cap]) w := cast (by kernel_rfl : F_ref11_Same a b w K = wpc Try.prog A_ref11_Same (Try.f15.body.getD .skip) (retK Try.prog [.one (.bool)] Try.f15.results.toList K) (argEnv [.slice a.a a.len a.cap, .slice b.a b.len b.cap]) w) h
  have h2 : chk Try.prog Try.f15.ntmps A_ref11_Same (Try.f15.body.getD .skip) = true := by kernel_rfl
  have h4 : Nat.ble (List.length (α := Value) [.slice a.a a.len a.cap, .slice b.a b.len b.cap]) Try.f15.ntmps = true := by kernel_rfl
  have h5 : Try.f15.body = some (Try.f15.body.getD .skip) := by kernel_rfl
  have h6 := @fn_sound Try.prog 15 Try.f15 (Try.f15.body.getD .skip) A_ref11_Same [.slice a.a a.len a.cap, .slice b.a b.len b.cap] [.one (.bool)] K w Try.func15 h5 h2 h4 h1
  exact cast (by kernel_rfl : callK Try.prog 15 (List.toArray (α := Value) [.slice a.a a.len a.cap, .slice b.a b.len b.cap]) [.one (.bool)] K w = C_ref11_Same a b w K) h6

def F_ref11_Right (l : Sl) (w : World) (K : Bool → World → Prop) : Prop :=
  ∃ I0 : Nat → Int → World → Prop, (∃ m, I0 m 0 w) ∧ ∀ (_ : Env) (m0 : Nat) (i : Int) (w1 : World), I0 m0 i w1 →
  If (decide (i < ((l.len : Int)))) (
  ∃ S : World → Prop, S (drewW w1) ∧
  Ix l.a l.len i 2 fun a =>
  ∃ vv : Int, Held S a (.int .u32 vv) ∧
  Ix l.a l.len i 2 fun a_1 =>
  ∃ vv_1 : Int, Held S (a_1.add 1) (.int .u32 vv_1) ∧
  If (decide (vv ≥ vv_1)) (
  K false ((drewW w1))) (
  ∃ S : World → Prop, S (drewW (drewW w1)) ∧
  If (decide (i > 0)) (
  Ix l.a l.len i 2 fun a_2 =>
  ∃ vv_2 : Int, Held S a_2 (.int .u32 vv_2) ∧
  Ar .i64 (i - 1) fun z =>
  Ix l.a l.len z 2 fun a_3 =>
  ∃ vv_3 : Int, Held S (a_3.add 1) (.int .u32 vv_3) ∧
  If (decide (vv_2 ≤ vv_3)) (
  K false ((drewW (drewW w1)))) (
  Ar .i64 (i + 1) fun z_1 =>
  ∃ m1, m1 < m0 ∧ I0 m1 z_1 ((drewW (drewW w1))))) (
  Ar .i64 (i + 1) fun z_2 =>
  ∃ m1, m1 < m0 ∧ I0 m1 z_2 ((drewW (drewW w1)))))) (
  K true w1)
def A_ref11_Right : Ann := (.seq .nil (.seq (.seq .nil (.block (.loop [(3, .int .i64)] 137438953468 (.seq (.seq .nil (.cond .nil .nil)) (.seq (.block (.seq (.seq (.draw (.take 0 (.take 1 (.take 2 (.take 3 (.take 4 (.take 5 (.take 6 (.take 7 (.take 8 (.take 9 (.take 10 .fin)))))))))))) (.cond (.seq .nil .nil) .nil)) (.seq (.draw (.take 0 (.take 1 (.take 2 (.take 3 (.take 4 (.take 5 (.take 6 (.take 7 (.take 8 (.take 9 (.take 10 (.take 11 (.take 12 (.take 13 (.take 14 (.take 15 .fin))))))))))))))))) (.cond (.seq .nil .nil) .nil)))) .nil))))) (.seq .nil .nil)))
theorem S_ref11_Right {l : Sl} {w : World} {K : Bool → World → Prop} (h : F_ref11_Right l w K) : C_ref11_Right l w K := by
  have h1 : wpc Try.prog A_ref11_Right (Try.f16.body.getD .skip) (retK Try.prog [.one (.bool)] Try.f16.results.toList K) (argEnv [.slice l.a l.len l.cap]) w := cast (by kernel_rfl : F_ref11_Right l w K = wpc Try.prog A_ref11_Right (Try.f16.body.getD .skip) (retK Try.prog [.one (.bool)] Try.f16.results.toList K) (argEnv [.slice l.a l.len l.cap]) w) h
  have h2 : chk Try.prog Try.f16.ntmps A_ref11_Right (Try.f16.body.getD .skip) = true := by kernel_rfl
  have h4 : Nat.ble (List.length (α := Value) [.slice l.a l.len l.cap]) Try.f16.ntmps = true := by kernel_rfl
  have h5 : Try.f16.body = some (Try.f16.body.getD .skip) := by kernel_rfl
  have h6 := @fn_sound Try.prog 16 Try.f16 (Try.f16.body.getD .skip) A_ref11_Right [.slice l.a l.len l.cap] [.one (.bool)] K w Try.func16 h5 h2 h4 h1
  exact cast (by kernel_rfl : callK Try.prog 16 (List.toArray (α := Value) [.slice l.a l.len l.cap]) [.one (.bool)] K w = C_ref11_Right l w K) h6

def F_runs_add (l : Sl) (r0 : Int) (r1 : Int) (w : World) (K : Sl → World → Prop) : Prop :=
  NewW w (.cells [.int .u32 r0, .int .u32 r1].toArray 32) fun b w1 =>
  ∃ J0 : Bool → World → Prop, (
  ∃ S : World → Prop, S (drewW w1) ∧
  If (decide (((l.len : Int)) > 0)) (
  ∃ vv : Int, Held S (Addr.mk b 0 none) (.int .u32 vv) ∧
  Ar .i64 (((l.len : Int)) - 1) fun z =>
  Ix l.a l.len z 2 fun a =>
  ∃ vv_1 : Int, Held S (a.add 1) (.int .u32 vv_1) ∧
  J0 (decide (vv ≤ vv_1)) ((drewW w1))) (
  J0 false ((drewW w1)))) ∧ ∀ (_ : Env) (t : Bool) (w2 : World), J0 t w2 →
  If t (
  ∃ S : World → Prop, S (drewW w2) ∧
  Ar .i64 (((l.len : Int)) - 1) fun z_1 =>
  Ar .i64 (((l.len : Int)) - 1) fun z_2 =>
  Ix l.a l.len z_2 2 fun a_1 =>
  (
  ∃ vv_2 : Int, Cell (drewW w2) (a_1.add 1) (.int .u32 vv_2) ∧
  S ((drewW w2)) ∧
  ∃ vv_3 : Int, Cell (drewW w2) ((Addr.mk b 0 none).add 1) (.int .u32 vv_3) ∧
  S ((drewW w2)) ∧
  Nm (iMax vv_2 vv_3) fun z_3 =>
  Ix l.a l.len z_1 2 fun a_2 =>
  St1 (drewW w2) (a_2.add 1) (.int .u32 z_3) fun w3 =>
  S w3 ∧
  K l w3) ∧ (
  ∃ vv_4 : Int, Cell (drewW w2) ((Addr.mk b 0 none).add 1) (.int .u32 vv_4) ∧
  S ((drewW w2)) ∧
  ∃ vv_5 : Int, Cell (drewW w2) (a_1.add 1) (.int .u32 vv_5) ∧
  S ((drewW w2)) ∧
  Nm (iMax vv_5 vv_4) fun z_4 =>
  Ix l.a l.len z_1 2 fun a_3 =>
  St1 (drewW w2) (a_3.add 1) (.int .u32 z_4) fun w4 =>
  S w4 ∧
  K l w4)) (
  ∃ c : Int, Cell w2 (Addr.mk b 0 none) (.int .u32 c) ∧
  ∃ c_1 : Int, Cell w2 ((Addr.mk b 0 none).add 1) (.int .u32 c_1) ∧
  NewW w2 (.cells [.int .u32 c, .int .u32 c_1].toArray 32) fun b_1 w5 =>
  AppW Try.prog 22 22 l (.slice (some (Addr.mk b_1 0 none)) 1 1) (fun s w6 =>
  K s w6) w5)
def A_runs_add : Ann := (.seq .nil (.seq (.seq .nil (.join [(20, .bool)] 2096896 (.draw (.take 0 (.take 1 (.take 2 (.take 3 (.take 4 (.take 5 (.take 6 (.take 7 (.take 8 (.take 9 (.take 10 (.take 11 (.take 12 .fin)))))))))))))) (.cond (.seq (.draw (.take 0 (.take 1 (.take 2 (.take 3 (.take 4 (.take 5 (.take 6 (.take 7 (.take 9 (.two 8 (.one 10 (.take 11 (.take 12 (.take 13 (.one 14 .fin))))) 10 (.one 8 (.take 11 (.take 12 (.take 13 (.one 14 .fin)))))))))))))))) (.seq .nil .nil)) .nil))) (.seq .nil .nil)))
theorem S_runs_add {l : Sl} {r0 : Int} {r1 : Int} {w : World} {K : Sl → World → Prop} (h : F_runs_add l r0 r1 w K) : C_runs_add l r0 r1 w K := by
  have h1 : wpc Try.prog A_runs_add (Try.f40.body.getD .skip) (retK Try.prog [.one (.sl)] Try.f40.results.toList K) (argEnv [.slice l.a l.len l.cap, .agg ([.int .u32 r0, .int .u32 r1]).toArray]) w := cast (by kernel_rfl : F_runs_add l r0 r1 w K = wpc Try.prog A_runs_add (Try.f40.body.getD .skip) (retK Try.prog [.one (.sl)] Try.f40.results.toList K) (argEnv [.slice l.a l.len l.cap, .agg ([.int .u32 r0, .int .u32 r1]).toArray]) w) h
  have h2 : chk Try.prog Try.f40.ntmps A_runs_add (Try.f40.body.getD .skip) = true := by kernel_rfl
  have h4 : Nat.ble (List.length (α := Value) [.slice l.a l.len l.cap, .agg ([.int .u32 r0, .int .u32 r1]).toArray]) Try.f40.ntmps = true := by kernel_rfl
  have h5 : Try.f40.body = some (Try.f40.body.getD .skip) := by kernel_rfl
  have h6 := @fn_sound Try.prog 40 Try.f40 (Try.f40.body.getD .skip) A_runs_add [.slice l.a l.len l.cap, .agg ([.int .u32 r0, .int .u32 r1]).toArray] [.one (.sl)] K w Try.func40 h5 h2 h4 h1
  exact cast (by kernel_rfl : callK Try.prog 40 (List.toArray (α := Value) [.slice l.a l.len l.cap, .agg ([.int .u32 r0, .int .u32 r1]).toArray]) [.one (.sl)] K w = C_runs_add l r0 r1 w K) h6

def F_runs_Both (a : Sl) (b : Sl) (w : World) (K : Sl → Int → World → Prop) : Prop :=
  ∃ J2 : World → Prop, (
  C_runs_Right a w fun r w1 =>
  If (!r) (
  K ⟨none, 0, 0⟩ 2 w1) (
  C_runs_Right b w1 fun r_1 w2 =>
  If (!r_1) (
  K ⟨none, 0, 0⟩ 2 w2) (
  J2 w2))) ∧ ∀ (_ : Env) (w3 : World), J2 w3 →
  ∃ I0 : Nat → Sl → Sl → Sl → World → Prop, (∃ m, I0 m a b ⟨none, 0, 0⟩ w3) ∧ ∀ (_ : Env) (m0 : Nat) (a_1 : Sl) (b_1 : Sl) (l : Sl) (w4 : World), I0 m0 a_1 b_1 l w4 →
  ∃ J1 : World → Prop, (
  If (decide (((a_1.len : Int)) > 0)) (
  J1 w4) (
  If (decide (((b_1.len : Int)) > 0)) (
  J1 w4) (
  K l 0 w4))) ∧ ∀ (_ : Env) (w5 : World), J1 w5 →
  ∃ J0 : Bool → World → Prop, (
  ∃ S : World → Prop, S (drewW w5) ∧
  If (((b_1.len : Int)) == 0) (
  J0 true ((drewW w5))) (
  If (decide (((a_1.len : Int)) > 0)) (
  Ix a_1.a a_1.len 0 2 fun a_2 =>
  ∃ vv : Int, Held S a_2 (.int .u32 vv) ∧
  Ix b_1.a b_1.len 0 2 fun a_3 =>
  ∃ vv_1 : Int, Held S a_3 (.int .u32 vv_1) ∧
  J0 (decide (vv ≤ vv_1)) ((drewW w5))) (
  J0 false ((drewW w5))))) ∧ ∀ (_ : Env) (t : Bool) (w6 : World), J0 t w6 →
  If t (
  ∃ S : World → Prop, S (drewW w6) ∧
  Ix a_1.a a_1.len 0 2 fun a_4 =>
  ∃ c : Int, Held S a_4 (.int .u32 c) ∧
  ∃ c_1 : Int, Held S (a_4.add 1) (.int .u32 c_1) ∧
  Cut a_1 1 (((a_1.len : Nat) : Int)) (((a_1.cap : Nat) : Int)) 2 fun s =>
  C_runs_add l c c_1 (drewW w6) fun r_2 w7 =>
  S w7 ∧
  ∃ m1, m1 < m0 ∧ I0 m1 s b_1 r_2 w7) (
  ∃ S : World → Prop, S (drewW w6) ∧
  Ix b_1.a b_1.len 0 2 fun a_5 =>
  ∃ c_2 : Int, Held S a_5 (.int .u32 c_2) ∧
  ∃ c_3 : Int, Held S (a_5.add 1) (.int .u32 c_3) ∧
  Cut b_1 1 (((b_1.len : Nat) : Int)) (((b_1.cap : Nat) : Int)) 2 fun s_1 =>
  C_runs_add l c_2 c_3 (drewW w6) fun r_3 w8 =>
  S w8 ∧
  ∃ m1, m1 < m0 ∧ I0 m1 a_1 s_1 r_3 w8)
def A_runs_Both : Ann := (.seq .nil (.join [] 32688 (.seq .nil (.cond (.seq .nil .nil) .nil)) (.seq .nil (.seq (.block (.loop [(0, .sl), (1, .sl), (6, .sl)] 72057594037895235 (.join [] 8355840 (.seq .nil (.cond .nil .nil)) (.block (.join [(41, .bool)] 4398038122496 (.draw (.take 0 (.take 1 (.take 2 (.take 3 (.take 4 (.take 5 (.take 6 (.take 7 (.take 8 (.take 9 (.take 10 (.take 11 (.take 12 (.take 13 (.take 14 (.take 15 (.take 16 (.take 17 (.take 18 .fin)))))))))))))))))))) (.cond (.draw (.take 0 (.take 1 (.take 2 (.take 3 (.take 5 (.take 6 (.one 4 (.take 7 (.take 8 .fin)))))))))) (.draw (.take 0 (.take 1 (.take 2 (.take 3 (.take 5 (.take 6 (.one 4 (.take 7 (.take 8 .fin)))))))))))))))) (.seq .nil .nil)))))
theorem S_runs_Both {a : Sl} {b : Sl} {w : World} {K : Sl → Int → World → Prop} (h : F_runs_Both a b w K) : C_runs_Both a b w K := by
  have h1 : wpc Try.prog A_runs_Both (Try.f20.body.getD .skip) (retK Try.prog [.one (.sl), .one (.int .i64)] Try.f20.results.toList K) (argEnv [.slice a.a a.len a.cap, .slice b.a b.len b.cap]) w := cast (by kernel_rfl : F_runs_Both a b w K = wpc Try.prog A_runs_Both (Try.f20.body.getD .skip) (retK Try.prog [.one (.sl), .one (.int .i64)] Try.f20.results.toList K) (argEnv [.slice a.a a.len a.cap, .slice b.a b.len b.cap]) w) h
  have h2 : chk Try.prog Try.f20.ntmps A_runs_Both (Try.f20.body.getD .skip) = true := by kernel_rfl
  have h4 : Nat.ble (List.length (α := Value) [.slice a.a a.len a.cap, .slice b.a b.len b.cap]) Try.f20.ntmps = true := by kernel_rfl
  have h5 : Try.f20.body = some (Try.f20.body.getD .skip) := by kernel_rfl
  have h6 := @fn_sound Try.prog 20 Try.f20 (Try.f20.body.getD .skip) A_runs_Both [.slice a.a a.len a.cap, .slice b.a b.len b.cap] [.one (.sl), .one (.int .i64)] K w Try.func20 h5 h2 h4 h1
  exact cast (by kernel_rfl : callK Try.prog 20 (List.toArray (α := Value) [.slice a.a a.len a.cap, .slice b.a b.len b.cap]) [.one (.sl), .one (.int .i64)] K w = C_runs_Both a b w K) h6

def F_runs_place (l : Sl) (p : Int) (w : World) (K : Int → World → Prop) : Prop :=
  ∃ I0 : Nat → Int → World → Prop, (∃ m, I0 m 0 w) ∧ ∀ (_ : Env) (m0 : Nat) (t : Int) (w1 : World), I0 m0 t w1 →
  If (decide (t < ((l.len : Int)))) (
  Ix l.a l.len t 2 fun a =>
  ∃ c : Int, Cell w1 a (.int .u32 c) ∧
  ∃ c_1 : Int, Cell w1 (a.add 1) (.int .u32 c_1) ∧
  NewW w1 (.cells [.int .u32 0, .int .u32 0].toArray 32) fun b w2 =>
  List.length (α := Value) [.int .u32 c, .int .u32 c_1] = 2 ∧ StN w2 (Addr.mk b 0 none) [.int .u32 c, .int .u32 c_1] fun w3 =>
  ∃ vv : Int, Cell w3 ((Addr.mk b 0 none).add 1) (.int .u32 vv) ∧
  If (decide (p < vv)) (
  K t w3) (
  Ar .i64 (t + 1) fun z =>
  ∃ m1, m1 < m0 ∧ I0 m1 z w3)) (
  K (l.len : Int) w1)
def A_runs_place : Ann := (.seq .nil (.seq (.seq .nil (.block (.loop [(9, .int .i64)] 1048176 (.seq .nil (.seq (.cond .nil .nil) (.seq (.block (.seq .nil (.seq .nil (.cond (.seq .nil .nil) .nil)))) .nil)))))) (.seq .nil .nil)))
theorem S_runs_place {l : Sl} {p : Int} {w : World} {K : Int → World → Prop} (h : F_runs_place l p w K) : C_runs_place l p w K := by
  have h1 : wpc Try.prog A_runs_place (Try.f41.body.getD .skip) (retK Try.prog [.one (.int .i64)] Try.f41.results.toList K) (argEnv [.slice l.a l.len l.cap, .int .u32 p]) w := cast (by kernel_rfl : F_runs_place l p w K = wpc Try.prog A_runs_place (Try.f41.body.getD .skip) (retK Try.prog [.one (.int .i64)] Try.f41.results.toList K) (argEnv [.slice l.a l.len l.cap, .int .u32 p]) w) h
  have h2 : chk Try.prog Try.f41.ntmps A_runs_place (Try.f41.body.getD .skip) = true := by kernel_rfl
  have h4 : Nat.ble (List.length (α := Value) [.slice l.a l.len l.cap, .int .u32 p]) Try.f41.ntmps = true := by kernel_rfl
  have h5 : Try.f41.body = some (Try.f41.body.getD .skip) := by kernel_rfl
  have h6 := @fn_sound Try.prog 41 Try.f41 (Try.f41.body.getD .skip) A_runs_place [.slice l.a l.len l.cap, .int .u32 p] [.one (.int .i64)] K w Try.func41 h5 h2 h4 h1
  exact cast (by kernel_rfl : callK Try.prog 41 (List.toArray (α := Value) [.slice l.a l.len l.cap, .int .u32 p]) [.one (.int .i64)] K w = C_runs_place l p w K) h6

def F_runs_Has (l : Sl) (p : Int) (w : World) (K : Bool → Int → World → Prop) : Prop :=
  C_runs_Right l w fun r w1 =>
  If (!r) (
  K false 2 w1) (
  C_runs_place l p w1 fun r_1 w2 =>
  If (decide (r_1 < ((l.len : Int)))) (
  Ix l.a l.len r_1 2 fun a =>
  ∃ vv : Int, Cell w2 a (.int .u32 vv) ∧
  K (decide (p ≥ vv)) 0 w2) (
  K false 0 w2))
def A_runs_Has : Ann := (.seq .nil (.seq (.seq .nil (.cond (.seq .nil .nil) .nil)) (.seq .nil (.seq .nil .nil))))
theorem S_runs_Has {l : Sl} {p : Int} {w : World} {K : Bool → Int → World → Prop} (h : F_runs_Has l p w K) : C_runs_Has l p w K := by
  have h1 : wpc Try.prog A_runs_Has (Try.f26.body.getD .skip) (retK Try.prog [.one (.bool), .one (.int .i64)] Try.f26.results.toList K) (argEnv [.slice l.a l.len l.cap, .int .u32 p]) w := cast (by kernel_rfl : F_runs_Has l p w K = wpc Try.prog A_runs_Has (Try.f26.body.getD .skip) (retK Try.prog [.one (.bool), .one (.int .i64)] Try.f26.results.toList K) (argEnv [.slice l.a l.len l.cap, .int .u32 p]) w) h
  have h2 : chk Try.prog Try.f26.ntmps A_runs_Has (Try.f26.body.getD .skip) = true := by kernel_rfl
  have h4 : Nat.ble (List.length (α := Value) [.slice l.a l.len l.cap, .int .u32 p]) Try.f26.ntmps = true := by kernel_rfl
  have h5 : Try.f26.body = some (Try.f26.body.getD .skip) := by kernel_rfl
  have h6 := @fn_sound Try.prog 26 Try.f26 (Try.f26.body.getD .skip) A_runs_Has [.slice l.a l.len l.cap, .int .u32 p] [.one (.bool), .one (.int .i64)] K w Try.func26 h5 h2 h4 h1
  exact cast (by kernel_rfl : callK Try.prog 26 (List.toArray (α := Value) [.slice l.a l.len l.cap, .int .u32 p]) [.one (.bool), .one (.int .i64)] K w = C_runs_Has l p w K) h6

def F_runs_Give (l : Sl) (p : Int) (w : World) (K : Sl → Int → World → Prop) : Prop :=
  C_runs_Has l p w fun r0_1 r1_1 w1 =>
  If (r1_1 != 0) (
  K ⟨none, 0, 0⟩ r1_1 w1) (
  If (p == 4294967295) (
  K ⟨none, 0, 0⟩ 2 w1) (
  If r0_1 (
  K ⟨none, 0, 0⟩ 8 w1) (
  Ar .u32 (p + 1) fun z =>
  C_runs_Make p z w1 fun r w2 =>
  C_runs_Both l r w2 fun r0_2 r1_2 w3 =>
  K r0_2 r1_2 w3)))
def A_runs_Give : Ann := (.seq .nil (.seq .nil (.seq (.block (.seq .nil (.cond (.seq .nil .nil) (.seq .nil (.cond (.seq .nil .nil) (.seq .nil (.cond (.seq .nil .nil) .nil))))))) (.seq .nil .nil))))
theorem S_runs_Give {l : Sl} {p : Int} {w : World} {K : Sl → Int → World → Prop} (h : F_runs_Give l p w K) : C_runs_Give l p w K := by
  have h1 : wpc Try.prog A_runs_Give (Try.f29.body.getD .skip) (retK Try.prog [.one (.sl), .one (.int .i64)] Try.f29.results.toList K) (argEnv [.slice l.a l.len l.cap, .int .u32 p]) w := cast (by kernel_rfl : F_runs_Give l p w K = wpc Try.prog A_runs_Give (Try.f29.body.getD .skip) (retK Try.prog [.one (.sl), .one (.int .i64)] Try.f29.results.toList K) (argEnv [.slice l.a l.len l.cap, .int .u32 p]) w) h
  have h2 : chk Try.prog Try.f29.ntmps A_runs_Give (Try.f29.body.getD .skip) = true := by kernel_rfl
  have h4 : Nat.ble (List.length (α := Value) [.slice l.a l.len l.cap, .int .u32 p]) Try.f29.ntmps = true := by kernel_rfl
  have h5 : Try.f29.body = some (Try.f29.body.getD .skip) := by kernel_rfl
  have h6 := @fn_sound Try.prog 29 Try.f29 (Try.f29.body.getD .skip) A_runs_Give [.slice l.a l.len l.cap, .int .u32 p] [.one (.sl), .one (.int .i64)] K w Try.func29 h5 h2 h4 h1
  exact cast (by kernel_rfl : callK Try.prog 29 (List.toArray (α := Value) [.slice l.a l.len l.cap, .int .u32 p]) [.one (.sl), .one (.int .i64)] K w = C_runs_Give l p w K) h6

def F_law11_known  (w : World) (K : Bool → World → Prop) : Prop :=
  NewW w (.cells [.int .u32 2, .int .u32 5, .int .u32 6, .int .u32 8].toArray 32) fun b w1 =>
  C_runs_Give ⟨some (Addr.mk b 0 none), 2, 2⟩ 5 w1 fun r0_1 r1 w2 =>
  C_runs_Take r0_1 w2 fun r0_2 r1_1 r2 w3 =>
  If (r1 == 0) (
  If (r2 == 0) (
  If (((r0_1.len : Int)) == 1) (
  Ix r0_1.a r0_1.len 0 2 fun a =>
  ∃ c : Int, Cell w3 a (.int .u32 c) ∧
  ∃ c_1 : Int, Cell w3 (a.add 1) (.int .u32 c_1) ∧
  If ((c == 2) && ((c_1 == 8) && (true))) (
  If (r0_2 == 2) (
  If (((r1_1.len : Int)) == 1) (
  Ix r1_1.a r1_1.len 0 2 fun a_1 =>
  ∃ vv : Int, Cell w3 a_1 (.int .u32 vv) ∧
  K (vv == 3) w3) (
  K false w3)) (
  K false w3)) (
  K false w3)) (
  K false w3)) (
  K false w3)) (
  K false w3)
def A_law11_known : Ann := (.seq .nil (.seq .nil (.seq .nil (.seq .nil .nil))))
theorem S_law11_known  {w : World} {K : Bool → World → Prop} (h : F_law11_known  w K) : C_law11_known  w K := by
  have h1 : wpc Try.prog A_law11_known (Try.f17.body.getD .skip) (retK Try.prog [.one (.bool)] Try.f17.results.toList K) (argEnv []) w := cast (by kernel_rfl : F_law11_known  w K = wpc Try.prog A_law11_known (Try.f17.body.getD .skip) (retK Try.prog [.one (.bool)] Try.f17.results.toList K) (argEnv []) w) h
  have h2 : chk Try.prog Try.f17.ntmps A_law11_known (Try.f17.body.getD .skip) = true := by kernel_rfl
  have h4 : Nat.ble (List.length (α := Value) []) Try.f17.ntmps = true := by kernel_rfl
  have h5 : Try.f17.body = some (Try.f17.body.getD .skip) := by kernel_rfl
  have h6 := @fn_sound Try.prog 17 Try.f17 (Try.f17.body.getD .skip) A_law11_known [] [.one (.bool)] K w Try.func17 h5 h2 h4 h1
  exact cast (by kernel_rfl : callK Try.prog 17 (List.toArray (α := Value) []) [.one (.bool)] K w = C_law11_known  w K) h6

def F_ref11_Drop (l : Sl) (p : Int) (w : World) (K : Sl → World → Prop) : Prop :=
  ∃ I0 : Nat → Sl → Int → World → Prop, (∃ m, I0 m ⟨none, 0, 0⟩ 0 w) ∧ ∀ (_ : Env) (m0 : Nat) (out : Sl) (i : Int) (w1 : World), I0 m0 out i w1 →
  If (decide (i < ((l.len : Int)))) (
  ∃ J2 : Sl → World → Prop, (
  ∃ J1 : Bool → World → Prop, (
  Ix l.a l.len i 2 fun a =>
  ∃ vv : Int, Cell w1 a (.int .u32 vv) ∧
  If (decide (p < vv)) (
  J1 true w1) (
  Ix l.a l.len i 2 fun a_1 =>
  ∃ vv_1 : Int, Cell w1 (a_1.add 1) (.int .u32 vv_1) ∧
  J1 (decide (p ≥ vv_1)) w1)) ∧ ∀ (_ : Env) (t : Bool) (w2 : World), J1 t w2 →
  If t (
  Ix l.a l.len i 2 fun a_2 =>
  ∃ c : Int, Cell w2 a_2 (.int .u32 c) ∧
  ∃ c_1 : Int, Cell w2 (a_2.add 1) (.int .u32 c_1) ∧
  NewW w2 (.cells [.int .u32 c, .int .u32 c_1].toArray 32) fun b w3 =>
  AppW Try.prog 22 22 out (.slice (some (Addr.mk b 0 none)) 1 1) (fun s w4 =>
  Ar .i64 (i + 1) fun z =>
  ∃ m1, m1 < m0 ∧ I0 m1 s z w4) w3) (
  J2 out w2)) ∧ ∀ (_ : Env) (out_1 : Sl) (w5 : World), J2 out_1 w5 →
  ∃ J0 : Sl → World → Prop, (
  Ix l.a l.len i 2 fun a_3 =>
  ∃ vv_2 : Int, Cell w5 a_3 (.int .u32 vv_2) ∧
  If (decide (vv_2 < p)) (
  Ix l.a l.len i 2 fun a_4 =>
  ∃ vv_3 : Int, Cell w5 a_4 (.int .u32 vv_3) ∧
  NewW w5 (.cells [.int .u32 vv_3, .int .u32 p].toArray 32) fun b_1 w6 =>
  AppW Try.prog 22 22 out_1 (.slice (some (Addr.mk b_1 0 none)) 1 1) (fun s_1 w7 =>
  J0 s_1 w7) w6) (
  J0 out_1 w5)) ∧ ∀ (_ : Env) (out_2 : Sl) (w8 : World), J0 out_2 w8 →
  Ar .u32 (p + 1) fun z_1 =>
  Ix l.a l.len i 2 fun a_5 =>
  ∃ vv_4 : Int, Cell w8 (a_5.add 1) (.int .u32 vv_4) ∧
  If (decide (z_1 < vv_4)) (
  Ar .u32 (p + 1) fun z_2 =>
  Ix l.a l.len i 2 fun a_6 =>
  ∃ vv_5 : Int, Cell w8 (a_6.add 1) (.int .u32 vv_5) ∧
  NewW w8 (.cells [.int .u32 z_2, .int .u32 vv_5].toArray 32) fun b_2 w9 =>
  AppW Try.prog 22 22 out_2 (.slice (some (Addr.mk b_2 0 none)) 1 1) (fun s_2 w10 =>
  Ar .i64 (i + 1) fun z_3 =>
  ∃ m1, m1 < m0 ∧ I0 m1 s_2 z_3 w10) w9) (
  Ar .i64 (i + 1) fun z_4 =>
  ∃ m1, m1 < m0 ∧ I0 m1 out_2 z_4 w8)) (
  K out w1)
def A_ref11_Drop : Ann := (.seq .nil (.seq .nil (.seq (.seq .nil (.block (.loop [(5, .sl), (6, .int .i64)] 4722366482869645213664 (.seq (.seq .nil (.cond .nil .nil)) (.seq (.block (.join [(5, .sl)] 68719468576 (.join [(28, .bool)] 536862720 .nil (.cond (.seq .nil .nil) .nil)) (.join [(5, .sl)] 9007130535264288 (.seq .nil (.cond .nil .nil)) (.seq .nil (.cond .nil .nil))))) .nil))))) (.seq .nil .nil))))
theorem S_ref11_Drop {l : Sl} {p : Int} {w : World} {K : Sl → World → Prop} (h : F_ref11_Drop l p w K) : C_ref11_Drop l p w K := by
  have h1 : wpc Try.prog A_ref11_Drop (Try.f18.body.getD .skip) (retK Try.prog [.one (.sl)] Try.f18.results.toList K) (argEnv [.slice l.a l.len l.cap, .int .u32 p]) w := cast (by kernel_rfl : F_ref11_Drop l p w K = wpc Try.prog A_ref11_Drop (Try.f18.body.getD .skip) (retK Try.prog [.one (.sl)] Try.f18.results.toList K) (argEnv [.slice l.a l.len l.cap, .int .u32 p]) w) h
  have h2 : chk Try.prog Try.f18.ntmps A_ref11_Drop (Try.f18.body.getD .skip) = true := by kernel_rfl
  have h4 : Nat.ble (List.length (α := Value) [.slice l.a l.len l.cap, .int .u32 p]) Try.f18.ntmps = true := by kernel_rfl
  have h5 : Try.f18.body = some (Try.f18.body.getD .skip) := by kernel_rfl
  have h6 := @fn_sound Try.prog 18 Try.f18 (Try.f18.body.getD .skip) A_ref11_Drop [.slice l.a l.len l.cap, .int .u32 p] [.one (.sl)] K w Try.func18 h5 h2 h4 h1
  exact cast (by kernel_rfl : callK Try.prog 18 (List.toArray (α := Value) [.slice l.a l.len l.cap, .int .u32 p]) [.one (.sl)] K w = C_ref11_Drop l p w K) h6

def F_law11_spoil (l : Sl) (w : World) (K : World → Prop) : Prop :=
  ∃ I0 : Nat → Int → World → Prop, (∃ m, I0 m 0 w) ∧ ∀ (_ : Env) (m0 : Nat) (t : Int) (w1 : World), I0 m0 t w1 →
  If (decide (t < ((l.len : Int)))) (
  Ix l.a l.len t 2 fun a =>
  List.length (α := Value) [.int .u32 9, .int .u32 3] = 2 ∧ StN w1 a [.int .u32 9, .int .u32 3] fun w2 =>
  Ar .i64 (t + 1) fun z =>
  ∃ m1, m1 < m0 ∧ I0 m1 z w2) (
  K w1)
def A_law11_spoil : Ann := (.seq .nil (.block (.loop [(5, .int .i64)] 8164 (.seq .nil (.seq (.cond .nil .nil) (.seq (.block (.seq .nil .nil)) .nil))))))
theorem S_law11_spoil {l : Sl} {w : World} {K : World → Prop} (h : F_law11_spoil l w K) : C_law11_spoil l w K := by
  have h1 : wpc Try.prog A_law11_spoil (Try.f19.body.getD .skip) (retK Try.prog [] Try.f19.results.toList K) (argEnv [.slice l.a l.len l.cap]) w := cast (by kernel_rfl : F_law11_spoil l w K = wpc Try.prog A_law11_spoil (Try.f19.body.getD .skip) (retK Try.prog [] Try.f19.results.toList K) (argEnv [.slice l.a l.len l.cap]) w) h
  have h2 : chk Try.prog Try.f19.ntmps A_law11_spoil (Try.f19.body.getD .skip) = true := by kernel_rfl
  have h4 : Nat.ble (List.length (α := Value) [.slice l.a l.len l.cap]) Try.f19.ntmps = true := by kernel_rfl
  have h5 : Try.f19.body = some (Try.f19.body.getD .skip) := by kernel_rfl
  have h6 := @fn_sound Try.prog 19 Try.f19 (Try.f19.body.getD .skip) A_law11_spoil [.slice l.a l.len l.cap] [] K w Try.func19 h5 h2 h4 h1
  exact cast (by kernel_rfl : callK Try.prog 19 (List.toArray (α := Value) [.slice l.a l.len l.cap]) [] K w = C_law11_spoil l w K) h6

def F_law11_RunsTakes (l : Sl) (w : World) (K : Bool → World → Prop) : Prop :=
  C_law11_own l w fun r w1 =>
  C_runs_Take r w1 fun r0_1 r1 r2 w2 =>
  C_ref11_Same r l w2 fun r_1 w3 =>
  If (!r_1) (
  K false w3) (
  C_ref11_Right l w3 fun r_2 w4 =>
  If (!r_2) (
  If (r0_1 == 0) (
  If (((r1.len : Int)) == 0) (
  If (r2 == 2) (
  C_law11_known  w4 fun r_3 w5 =>
  K r_3 w5) (
  K false w4)) (
  K false w4)) (
  K false w4)) (
  If (((l.len : Int)) == 0) (
  If (r0_1 == 0) (
  If (((r1.len : Int)) == 0) (
  If (r2 == 9) (
  C_law11_known  w4 fun r_4 w6 =>
  K r_4 w6) (
  K false w4)) (
  K false w4)) (
  K false w4)) (
  ∃ J0 : World → Prop, (
  If (r2 != 0) (
  K false w4) (
  Ix l.a l.len 0 2 fun a =>
  ∃ vv : Int, Cell w4 a (.int .u32 vv) ∧
  If (r0_1 != vv) (
  K false w4) (
  C_ref11_Drop l r0_1 w4 fun r_5 w7 =>
  C_ref11_Same r1 r_5 w7 fun r_6 w8 =>
  If (!r_6) (
  K false w8) (
  J0 w8)))) ∧ ∀ (_ : Env) (w9 : World), J0 w9 →
  C_law11_spoil r1 w9 fun w10 =>
  C_ref11_Same r l w10 fun r_7 w11 =>
  If r_7 (
  C_law11_known  w11 fun r_8 w12 =>
  K r_8 w12) (
  K false w11))))
def A_law11_RunsTakes : Ann := (.seq .nil (.seq .nil (.seq .nil (.seq (.seq .nil (.cond (.seq .nil .nil) .nil)) (.seq (.block (.seq .nil (.cond (.seq .nil .nil) (.seq .nil (.cond (.seq .nil .nil) .nil))))) (.join [] 9444696936942271463428 (.seq .nil (.cond (.seq .nil .nil) .nil)) (.seq .nil (.seq .nil .nil))))))))
theorem S_law11_RunsTakes {l : Sl} {w : World} {K : Bool → World → Prop} (h : F_law11_RunsTakes l w K) : C_law11_RunsTakes l w K := by
  have h1 : wpc Try.prog A_law11_RunsTakes (Try.f3.body.getD .skip) (retK Try.prog [.one (.bool)] Try.f3.results.toList K) (argEnv [.slice l.a l.len l.cap]) w := cast (by kernel_rfl : F_law11_RunsTakes l w K = wpc Try.prog A_law11_RunsTakes (Try.f3.body.getD .skip) (retK Try.prog [.one (.bool)] Try.f3.results.toList K) (argEnv [.slice l.a l.len l.cap]) w) h
  have h2 : chk Try.prog Try.f3.ntmps A_law11_RunsTakes (Try.f3.body.getD .skip) = true := by kernel_rfl
  have h4 : Nat.ble (List.length (α := Value) [.slice l.a l.len l.cap]) Try.f3.ntmps = true := by kernel_rfl
  have h5 : Try.f3.body = some (Try.f3.body.getD .skip) := by kernel_rfl
  have h6 := @fn_sound Try.prog 3 Try.f3 (Try.f3.body.getD .skip) A_law11_RunsTakes [.slice l.a l.len l.cap] [.one (.bool)] K w Try.func3 h5 h2 h4 h1
  exact cast (by kernel_rfl : callK Try.prog 3 (List.toArray (α := Value) [.slice l.a l.len l.cap]) [.one (.bool)] K w = C_law11_RunsTakes l w K) h6

def F_ref11_Both (a : Sl) (b : Sl) (w : World) (K : Sl → World → Prop) : Prop :=
  ∃ I0 : Nat → Sl → Int → Int → World → Prop, (∃ m, I0 m ⟨none, 0, 0⟩ 0 0 w) ∧ ∀ (_ : Env) (m0 : Nat) (out : Sl) (i : Int) (k : Int) (w1 : World), I0 m0 out i k w1 →
  ∃ J3 : World → Prop, (
  If (decide (i < ((a.len : Int)))) (
  J3 w1) (
  If (decide (k < ((b.len : Int)))) (
  J3 w1) (
  K out w1))) ∧ ∀ (_ : Env) (w2 : World), J3 w2 →
  NewW w2 (.cells [.int .u32 0, .int .u32 0].toArray 32) fun b_1 w3 =>
  ∃ J2 : Int → Int → World → Prop, (
  ∃ J1 : Bool → World → Prop, (
  ∃ S : World → Prop, S (drewW w3) ∧
  If (decide (k ≥ ((b.len : Int)))) (
  J1 true ((drewW w3))) (
  If (decide (i < ((a.len : Int)))) (
  Ix a.a a.len i 2 fun a_1 =>
  ∃ vv : Int, Held S a_1 (.int .u32 vv) ∧
  Ix b.a b.len k 2 fun a_2 =>
  ∃ vv_1 : Int, Held S a_2 (.int .u32 vv_1) ∧
  J1 (decide (vv ≤ vv_1)) ((drewW w3))) (
  J1 false ((drewW w3))))) ∧ ∀ (_ : Env) (t : Bool) (w4 : World), J1 t w4 →
  If t (
  Ix a.a a.len i 2 fun a_3 =>
  ∃ c : Int, Cell w4 a_3 (.int .u32 c) ∧
  ∃ c_1 : Int, Cell w4 (a_3.add 1) (.int .u32 c_1) ∧
  List.length (α := Value) [.int .u32 c, .int .u32 c_1] = 2 ∧ StN w4 (Addr.mk b_1 0 none) [.int .u32 c, .int .u32 c_1] fun w5 =>
  Ar .i64 (i + 1) fun z =>
  J2 z k w5) (
  Ix b.a b.len k 2 fun a_4 =>
  ∃ c_2 : Int, Cell w4 a_4 (.int .u32 c_2) ∧
  ∃ c_3 : Int, Cell w4 (a_4.add 1) (.int .u32 c_3) ∧
  List.length (α := Value) [.int .u32 c_2, .int .u32 c_3] = 2 ∧ StN w4 (Addr.mk b_1 0 none) [.int .u32 c_2, .int .u32 c_3] fun w6 =>
  Ar .i64 (k + 1) fun z_1 =>
  J2 i z_1 w6)) ∧ ∀ (_ : Env) (i_1 : Int) (k_1 : Int) (w7 : World), J2 i_1 k_1 w7 →
  ∃ J0 : Bool → World → Prop, (
  ∃ S : World → Prop, S (drewW w7) ∧
  If (decide (((out.len : Int)) > 0)) (
  ∃ vv_2 : Int, Held S (Addr.mk b_1 0 none) (.int .u32 vv_2) ∧
  Ar .i64 (((out.len : Int)) - 1) fun z_2 =>
  Ix out.a out.len z_2 2 fun a_5 =>
  ∃ vv_3 : Int, Held S (a_5.add 1) (.int .u32 vv_3) ∧
  J0 (decide (vv_2 ≤ vv_3)) ((drewW w7))) (
  J0 false ((drewW w7)))) ∧ ∀ (_ : Env) (t_1 : Bool) (w8 : World), J0 t_1 w8 →
  If t_1 (
  ∃ S : World → Prop, S (drewW w8) ∧
  ∃ vv_4 : Int, Held S ((Addr.mk b_1 0 none).add 1) (.int .u32 vv_4) ∧
  Ar .i64 (((out.len : Int)) - 1) fun z_3 =>
  Ix out.a out.len z_3 2 fun a_6 =>
  ∃ vv_5 : Int, Held S (a_6.add 1) (.int .u32 vv_5) ∧
  If (decide (vv_4 > vv_5)) (
  Ar .i64 (((out.len : Int)) - 1) fun z_4 =>
  ∃ vv_6 : Int, Cell (drewW w8) ((Addr.mk b_1 0 none).add 1) (.int .u32 vv_6) ∧
  Ix out.a out.len z_4 2 fun a_7 =>
  St1 (drewW w8) (a_7.add 1) (.int .u32 vv_6) fun w9 =>
  ∃ m1, m1 < m0 ∧ I0 m1 out i_1 k_1 w9) (
  ∃ m1, m1 < m0 ∧ I0 m1 out i_1 k_1 ((drewW w8)))) (
  ∃ c_4 : Int, Cell w8 (Addr.mk b_1 0 none) (.int .u32 c_4) ∧
  ∃ c_5 : Int, Cell w8 ((Addr.mk b_1 0 none).add 1) (.int .u32 c_5) ∧
  NewW w8 (.cells [.int .u32 c_4, .int .u32 c_5].toArray 32) fun b_2 w10 =>
  AppW Try.prog 22 22 out (.slice (some (Addr.mk b_2 0 none)) 1 1) (fun s w11 =>
  ∃ m1, m1 < m0 ∧ I0 m1 s i_1 k_1 w11) w10)
def A_ref11_Both : Ann := (.seq .nil (.seq .nil (.seq .nil (.seq (.block (.loop [(5, .sl), (6, .int .i64), (7, .int .i64)] 1237940039285380274899124192 (.join [] 1047552 (.seq .nil (.cond .nil .nil)) (.block (.seq .nil (.join [(6, .int .i64), (7, .int .i64)] 36028797017915584 (.join [(42, .bool)] 8796091973632 (.draw (.take 0 (.take 1 (.take 2 (.take 3 (.take 4 (.take 5 (.take 6 (.take 7 (.take 8 (.take 9 (.take 10 (.take 11 (.take 12 (.take 13 (.take 14 (.take 15 (.take 16 (.take 17 (.take 18 (.take 19 (.take 20 (.take 21 (.take 22 .fin)))))))))))))))))))))))) (.cond (.seq .nil .nil) (.seq .nil .nil))) (.seq .nil (.join [(69, .bool)] 1180447505529335447552 (.draw (.take 0 (.take 1 (.take 2 (.take 3 (.take 4 (.take 5 (.take 6 (.take 7 (.take 8 (.take 9 (.take 10 (.take 11 (.take 12 .fin)))))))))))))) (.cond (.seq (.draw (.take 0 (.take 1 (.take 2 (.take 3 (.take 4 (.take 5 (.take 6 (.take 7 (.take 8 .fin)))))))))) (.cond .nil .nil)) .nil))))))))) (.seq .nil .nil)))))
theorem S_ref11_Both {a : Sl} {b : Sl} {w : World} {K : Sl → World → Prop} (h : F_ref11_Both a b w K) : C_ref11_Both a b w K := by
  have h1 : wpc Try.prog A_ref11_Both (Try.f21.body.getD .skip) (retK Try.prog [.one (.sl)] Try.f21.results.toList K) (argEnv [.slice a.a a.len a.cap, .slice b.a b.len b.cap]) w := cast (by kernel_rfl : F_ref11_Both a b w K = wpc Try.prog A_ref11_Both (Try.f21.body.getD .skip) (retK Try.prog [.one (.sl)] Try.f21.results.toList K) (argEnv [.slice a.a a.len a.cap, .slice b.a b.len b.cap]) w) h
  have h2 : chk Try.prog Try.f21.ntmps A_ref11_Both (Try.f21.body.getD .skip) = true := by kernel_rfl
  have h4 : Nat.ble (List.length (α := Value) [.slice a.a a.len a.cap, .slice b.a b.len b.cap]) Try.f21.ntmps = true := by kernel_rfl
  have h5 : Try.f21.body = some (Try.f21.body.getD .skip) := by kernel_rfl
  have h6 := @fn_sound Try.prog 21 Try.f21 (Try.f21.body.getD .skip) A_ref11_Both [.slice a.a a.len a.cap, .slice b.a b.len b.cap] [.one (.sl)] K w Try.func21 h5 h2 h4 h1
  exact cast (by kernel_rfl : callK Try.prog 21 (List.toArray (α := Value) [.slice a.a a.len a.cap, .slice b.a b.len b.cap]) [.one (.sl)] K w = C_ref11_Both a b w K) h6

def F_law11_RunsBoth (a : Sl) (b : Sl) (w : World) (K : Bool → World → Prop) : Prop :=
  C_law11_own a w fun r w1 =>
  C_law11_own b w1 fun r_1 w2 =>
  C_runs_Both r r_1 w2 fun r0_1 r1 w3 =>
  ∃ J3 : World → Prop, (
  C_ref11_Same r a w3 fun r_2 w4 =>
  If (!r_2) (
  K false w4) (
  C_ref11_Same r_1 b w4 fun r_3 w5 =>
  If (!r_3) (
  K false w5) (
  J3 w5))) ∧ ∀ (_ : Env) (w6 : World), J3 w6 →
  ∃ J2 : World → Prop, (
  ∃ J1 : Bool → World → Prop, (
  C_ref11_Right a w6 fun r_4 w7 =>
  If (!r_4) (
  J1 true w7) (
  C_ref11_Right b w7 fun r_5 w8 =>
  J1 (!r_5) w8)) ∧ ∀ (_ : Env) (t : Bool) (w9 : World), J1 t w9 →
  If t (
  If (((r0_1.len : Int)) == 0) (
  If (r1 == 2) (
  C_law11_known  w9 fun r_6 w10 =>
  K r_6 w10) (
  K false w9)) (
  K false w9)) (
  J2 w9)) ∧ ∀ (_ : Env) (w11 : World), J2 w11 →
  ∃ J0 : World → Prop, (
  If (r1 != 0) (
  K false w11) (
  C_ref11_Both a b w11 fun r_7 w12 =>
  C_ref11_Same r0_1 r_7 w12 fun r_8 w13 =>
  If (!r_8) (
  K false w13) (
  J0 w13))) ∧ ∀ (_ : Env) (w14 : World), J0 w14 →
  C_law11_spoil r0_1 w14 fun w15 =>
  C_ref11_Same r a w15 fun r_9 w16 =>
  If r_9 (
  C_ref11_Same r_1 b w16 fun r_10 w17 =>
  If r_10 (
  C_law11_known  w17 fun r_11 w18 =>
  K r_11 w18) (
  K false w17)) (
  K false w16)
def A_law11_RunsBoth : Ann := (.seq .nil (.seq .nil (.seq .nil (.join [] 536346640 (.seq .nil (.cond (.seq .nil .nil) .nil)) (.join [] 140736951484432 (.join [(36, .bool)] 136902082560 .nil (.cond (.seq .nil .nil) .nil)) (.join [] 143974450587500560 (.seq .nil (.cond (.seq .nil .nil) .nil)) (.seq .nil (.seq .nil .nil))))))))
theorem S_law11_RunsBoth {a : Sl} {b : Sl} {w : World} {K : Bool → World → Prop} (h : F_law11_RunsBoth a b w K) : C_law11_RunsBoth a b w K := by
  have h1 : wpc Try.prog A_law11_RunsBoth (Try.f4.body.getD .skip) (retK Try.prog [.one (.bool)] Try.f4.results.toList K) (argEnv [.slice a.a a.len a.cap, .slice b.a b.len b.cap]) w := cast (by kernel_rfl : F_law11_RunsBoth a b w K = wpc Try.prog A_law11_RunsBoth (Try.f4.body.getD .skip) (retK Try.prog [.one (.bool)] Try.f4.results.toList K) (argEnv [.slice a.a a.len a.cap, .slice b.a b.len b.cap]) w) h
  have h2 : chk Try.prog Try.f4.ntmps A_law11_RunsBoth (Try.f4.body.getD .skip) = true := by kernel_rfl
  have h4 : Nat.ble (List.length (α := Value) [.slice a.a a.len a.cap, .slice b.a b.len b.cap]) Try.f4.ntmps = true := by kernel_rfl
  have h5 : Try.f4.body = some (Try.f4.body.getD .skip) := by kernel_rfl
  have h6 := @fn_sound Try.prog 4 Try.f4 (Try.f4.body.getD .skip) A_law11_RunsBoth [.slice a.a a.len a.cap, .slice b.a b.len b.cap] [.one (.bool)] K w Try.func4 h5 h2 h4 h1
  exact cast (by kernel_rfl : callK Try.prog 4 (List.toArray (α := Value) [.slice a.a a.len a.cap, .slice b.a b.len b.cap]) [.one (.bool)] K w = C_law11_RunsBoth a b w K) h6

def F_law11_same (a : Sl) (b : Sl) (w : World) (K : Bool → World → Prop) : Prop :=
  If (((a.len : Int)) != ((b.len : Int))) (
  K false w) (
  ∃ I0 : Nat → Int → World → Prop, (∃ m, I0 m 0 w) ∧ ∀ (_ : Env) (m0 : Nat) (t : Int) (w1 : World), I0 m0 t w1 →
  If (decide (t < ((a.len : Int)))) (
  ∃ S : World → Prop, S (drewW w1) ∧
  Ix a.a a.len t 2 fun a_1 =>
  ∃ c : Int, Held S a_1 (.int .u32 c) ∧
  ∃ c_1 : Int, Held S (a_1.add 1) (.int .u32 c_1) ∧
  Ix b.a b.len t 2 fun a_2 =>
  ∃ c_2 : Int, Held S a_2 (.int .u32 c_2) ∧
  ∃ c_3 : Int, Held S (a_2.add 1) (.int .u32 c_3) ∧
  If (!((c == c_2) && ((c_1 == c_3) && (true)))) (
  K false ((drewW w1))) (
  Ar .i64 (t + 1) fun z =>
  ∃ m1, m1 < m0 ∧ I0 m1 z ((drewW w1)))) (
  K true w1))
def A_law11_same : Ann := (.seq .nil (.seq (.seq .nil (.cond (.seq .nil .nil) .nil)) (.seq (.seq .nil (.block (.loop [(13, .int .i64)] 67100720 (.seq .nil (.seq (.cond .nil .nil) (.seq (.block (.seq .nil (.seq (.draw (.take 0 (.take 1 (.take 2 (.take 3 (.take 4 (.take 5 (.take 6 (.take 7 (.take 8 .fin)))))))))) (.cond (.seq .nil .nil) .nil)))) .nil)))))) (.seq .nil .nil))))
theorem S_law11_same {a : Sl} {b : Sl} {w : World} {K : Bool → World → Prop} (h : F_law11_same a b w K) : C_law11_same a b w K := by
  have h1 : wpc Try.prog A_law11_same (Try.f23.body.getD .skip) (retK Try.prog [.one (.bool)] Try.f23.results.toList K) (argEnv [.slice a.a a.len a.cap, .slice b.a b.len b.cap]) w := cast (by kernel_rfl : F_law11_same a b w K = wpc Try.prog A_law11_same (Try.f23.body.getD .skip) (retK Try.prog [.one (.bool)] Try.f23.results.toList K) (argEnv [.slice a.a a.len a.cap, .slice b.a b.len b.cap]) w) h
  have h2 : chk Try.prog Try.f23.ntmps A_law11_same (Try.f23.body.getD .skip) = true := by kernel_rfl
  have h4 : Nat.ble (List.length (α := Value) [.slice a.a a.len a.cap, .slice b.a b.len b.cap]) Try.f23.ntmps = true := by kernel_rfl
  have h5 : Try.f23.body = some (Try.f23.body.getD .skip) := by kernel_rfl
  have h6 := @fn_sound Try.prog 23 Try.f23 (Try.f23.body.getD .skip) A_law11_same [.slice a.a a.len a.cap, .slice b.a b.len b.cap] [.one (.bool)] K w Try.func23 h5 h2 h4 h1
  exact cast (by kernel_rfl : callK Try.prog 23 (List.toArray (α := Value) [.slice a.a a.len a.cap, .slice b.a b.len b.cap]) [.one (.bool)] K w = C_law11_same a b w K) h6

def F_law11_RunsSets (a : Sl) (b : Sl) (c : Sl) (w : World) (K : Bool → World → Prop) : Prop :=
  ∃ J1 : World → Prop, (
  C_runs_Right a w fun r w1 =>
  If (!r) (
  C_law11_known  w1 fun r_1 w2 =>
  K r_1 w2) (
  C_runs_Right b w1 fun r_2 w3 =>
  If (!r_2) (
  C_law11_known  w3 fun r_3 w4 =>
  K r_3 w4) (
  C_runs_Right c w3 fun r_4 w5 =>
  If (!r_4) (
  C_law11_known  w5 fun r_5 w6 =>
  K r_5 w6) (
  J1 w5)))) ∧ ∀ (_ : Env) (w7 : World), J1 w7 →
  C_runs_Both a b w7 fun r0_1 r1 w8 =>
  C_runs_Both b a w8 fun r0_2 r1_1 w9 =>
  C_runs_Both b c w9 fun r0_3 r1_2 w10 =>
  C_runs_Both r0_1 c w10 fun r0_4 r1_3 w11 =>
  C_runs_Both a r0_3 w11 fun r0_5 r1_4 w12 =>
  C_runs_Both a a w12 fun r0_6 r1_5 w13 =>
  ∃ J0 : World → Prop, (
  If (r1 != 0) (
  K false w13) (
  If (r1_1 != 0) (
  K false w13) (
  If (r1_2 != 0) (
  K false w13) (
  If (r1_3 != 0) (
  K false w13) (
  If (r1_4 != 0) (
  K false w13) (
  If (r1_5 != 0) (
  K false w13) (
  J0 w13))))))) ∧ ∀ (_ : Env) (w14 : World), J0 w14 →
  C_law11_same r0_1 r0_2 w14 fun r_6 w15 =>
  If r_6 (
  C_law11_same r0_4 r0_5 w15 fun r_7 w16 =>
  If r_7 (
  C_law11_same r0_6 a w16 fun r_8 w17 =>
  If r_8 (
  C_runs_Right r0_4 w17 fun r_9 w18 =>
  If r_9 (
  C_law11_known  w18 fun r_10 w19 =>
  K r_10 w19) (
  K false w18)) (
  K false w17)) (
  K false w16)) (
  K false w15)
def A_law11_RunsSets : Ann := (.seq .nil (.join [] 8589410368 (.seq .nil (.cond (.seq .nil .nil) .nil)) (.seq .nil (.seq .nil (.seq .nil (.seq .nil (.seq .nil (.seq .nil (.join [] 2475879488274950191092596800 (.seq .nil (.cond (.seq .nil .nil) .nil)) (.seq .nil .nil))))))))))
theorem S_law11_RunsSets {a : Sl} {b : Sl} {c : Sl} {w : World} {K : Bool → World → Prop} (h : F_law11_RunsSets a b c w K) : C_law11_RunsSets a b c w K := by
  have h1 : wpc Try.prog A_law11_RunsSets (Try.f5.body.getD .skip) (retK Try.prog [.one (.bool)] Try.f5.results.toList K) (argEnv [.slice a.a a.len a.cap, .slice b.a b.len b.cap, .slice c.a c.len c.cap]) w := cast (by kernel_rfl : F_law11_RunsSets a b c w K = wpc Try.prog A_law11_RunsSets (Try.f5.body.getD .skip) (retK Try.prog [.one (.bool)] Try.f5.results.toList K) (argEnv [.slice a.a a.len a.cap, .slice b.a b.len b.cap, .slice c.a c.len c.cap]) w) h
  have h2 : chk Try.prog Try.f5.ntmps A_law11_RunsSets (Try.f5.body.getD .skip) = true := by kernel_rfl
  have h4 : Nat.ble (List.length (α := Value) [.slice a.a a.len a.cap, .slice b.a b.len b.cap, .slice c.a c.len c.cap]) Try.f5.ntmps = true := by kernel_rfl
  have h5 : Try.f5.body = some (Try.f5.body.getD .skip) := by kernel_rfl
  have h6 := @fn_sound Try.prog 5 Try.f5 (Try.f5.body.getD .skip) A_law11_RunsSets [.slice a.a a.len a.cap, .slice b.a b.len b.cap, .slice c.a c.len c.cap] [.one (.bool)] K w Try.func5 h5 h2 h4 h1
  exact cast (by kernel_rfl : callK Try.prog 5 (List.toArray (α := Value) [.slice a.a a.len a.cap, .slice b.a b.len b.cap, .slice c.a c.len c.cap]) [.one (.bool)] K w = C_law11_RunsSets a b c w K) h6

def F_runs_Count (l : Sl) (w : World) (K : Int → Int → World → Prop) : Prop :=
  C_runs_Right l w fun r w1 =>
  If (!r) (
  K 0 2 w1) (
  ∃ I0 : Nat → Int → Int → World → Prop, (∃ m, I0 m 0 0 w1) ∧ ∀ (_ : Env) (m0 : Nat) (n : Int) (t : Int) (w2 : World), I0 m0 n t w2 →
  If (decide (t < ((l.len : Int)))) (
  Ix l.a l.len t 2 fun a =>
  ∃ c : Int, Cell w2 a (.int .u32 c) ∧
  ∃ c_1 : Int, Cell w2 (a.add 1) (.int .u32 c_1) ∧
  NewW w2 (.cells [.int .u32 0, .int .u32 0].toArray 32) fun b w3 =>
  List.length (α := Value) [.int .u32 c, .int .u32 c_1] = 2 ∧ StN w3 (Addr.mk b 0 none) [.int .u32 c, .int .u32 c_1] fun w4 =>
  ∃ vv : Int, Cell w4 ((Addr.mk b 0 none).add 1) (.int .u32 vv) ∧
  ∃ vv_1 : Int, Cell w4 (Addr.mk b 0 none) (.int .u32 vv_1) ∧
  Ar .u32 (vv - vv_1) fun z =>
  Ar .u64 z fun z_1 =>
  Ar .u64 (n + z_1) fun z_2 =>
  Ar .i64 (t + 1) fun z_3 =>
  ∃ m1, m1 < m0 ∧ I0 m1 z_2 z_3 w4) (
  K n 0 w2))
def A_runs_Count : Ann := (.seq .nil (.seq (.seq .nil (.cond (.seq .nil .nil) .nil)) (.seq .nil (.seq (.seq .nil (.block (.loop [(4, .int .u64), (12, .int .i64)] 33550416 (.seq .nil (.seq (.cond .nil .nil) (.seq (.block (.seq .nil .nil)) .nil)))))) (.seq .nil .nil)))))
theorem S_runs_Count {l : Sl} {w : World} {K : Int → Int → World → Prop} (h : F_runs_Count l w K) : C_runs_Count l w K := by
  have h1 : wpc Try.prog A_runs_Count (Try.f25.body.getD .skip) (retK Try.prog [.one (.int .u64), .one (.int .i64)] Try.f25.results.toList K) (argEnv [.slice l.a l.len l.cap]) w := cast (by kernel_rfl : F_runs_Count l w K = wpc Try.prog A_runs_Count (Try.f25.body.getD .skip) (retK Try.prog [.one (.int .u64), .one (.int .i64)] Try.f25.results.toList K) (argEnv [.slice l.a l.len l.cap]) w) h
  have h2 : chk Try.prog Try.f25.ntmps A_runs_Count (Try.f25.body.getD .skip) = true := by kernel_rfl
  have h4 : Nat.ble (List.length (α := Value) [.slice l.a l.len l.cap]) Try.f25.ntmps = true := by kernel_rfl
  have h5 : Try.f25.body = some (Try.f25.body.getD .skip) := by kernel_rfl
  have h6 := @fn_sound Try.prog 25 Try.f25 (Try.f25.body.getD .skip) A_runs_Count [.slice l.a l.len l.cap] [.one (.int .u64), .one (.int .i64)] K w Try.func25 h5 h2 h4 h1
  exact cast (by kernel_rfl : callK Try.prog 25 (List.toArray (α := Value) [.slice l.a l.len l.cap]) [.one (.int .u64), .one (.int .i64)] K w = C_runs_Count l w K) h6

def F_ref11_Count (l : Sl) (w : World) (K : Int → World → Prop) : Prop :=
  ∃ I0 : Nat → Int → Int → World → Prop, (∃ m, I0 m 0 0 w) ∧ ∀ (_ : Env) (m0 : Nat) (n : Int) (i : Int) (w1 : World), I0 m0 n i w1 →
  If (decide (i < ((l.len : Int)))) (
  ∃ S : World → Prop, S (drewW w1) ∧
  Ix l.a l.len i 2 fun a =>
  ∃ vv : Int, Held S (a.add 1) (.int .u32 vv) ∧
  Ar .u64 vv fun z =>
  Ar .u64 (n + z) fun z_1 =>
  Ix l.a l.len i 2 fun a_1 =>
  ∃ vv_1 : Int, Held S a_1 (.int .u32 vv_1) ∧
  Ar .u64 vv_1 fun z_2 =>
  Ar .u64 (z_1 - z_2) fun z_3 =>
  Ar .i64 (i + 1) fun z_4 =>
  ∃ m1, m1 < m0 ∧ I0 m1 z_3 z_4 ((drewW w1))) (
  K n w1)
def A_ref11_Count : Ann := (.seq .nil (.seq .nil (.seq (.seq .nil (.block (.loop [(3, .int .u64), (4, .int .i64)] 67108856 (.seq (.seq .nil (.cond .nil .nil)) (.seq (.block (.draw (.take 0 (.take 1 (.take 2 (.take 3 (.take 4 (.take 5 (.take 6 (.take 7 (.take 8 (.take 9 (.take 10 (.take 11 (.take 12 (.take 13 (.take 14 (.take 15 .fin)))))))))))))))))) .nil))))) (.seq .nil .nil))))
theorem S_ref11_Count {l : Sl} {w : World} {K : Int → World → Prop} (h : F_ref11_Count l w K) : C_ref11_Count l w K := by
  have h1 : wpc Try.prog A_ref11_Count (Try.f27.body.getD .skip) (retK Try.prog [.one (.int .u64)] Try.f27.results.toList K) (argEnv [.slice l.a l.len l.cap]) w := cast (by kernel_rfl : F_ref11_Count l w K = wpc Try.prog A_ref11_Count (Try.f27.body.getD .skip) (retK Try.prog [.one (.int .u64)] Try.f27.results.toList K) (argEnv [.slice l.a l.len l.cap]) w) h
  have h2 : chk Try.prog Try.f27.ntmps A_ref11_Count (Try.f27.body.getD .skip) = true := by kernel_rfl
  have h4 : Nat.ble (List.length (α := Value) [.slice l.a l.len l.cap]) Try.f27.ntmps = true := by kernel_rfl
  have h5 : Try.f27.body = some (Try.f27.body.getD .skip) := by kernel_rfl
  have h6 := @fn_sound Try.prog 27 Try.f27 (Try.f27.body.getD .skip) A_ref11_Count [.slice l.a l.len l.cap] [.one (.int .u64)] K w Try.func27 h5 h2 h4 h1
  exact cast (by kernel_rfl : callK Try.prog 27 (List.toArray (α := Value) [.slice l.a l.len l.cap]) [.one (.int .u64)] K w = C_ref11_Count l w K) h6

def F_ref11_Has (l : Sl) (p : Int) (w : World) (K : Bool → World → Prop) : Prop :=
  ∃ I0 : Nat → Int → World → Prop, (∃ m, I0 m 0 w) ∧ ∀ (_ : Env) (m0 : Nat) (i : Int) (w1 : World), I0 m0 i w1 →
  If (decide (i < ((l.len : Int)))) (
  Ix l.a l.len i 2 fun a =>
  ∃ vv : Int, Cell w1 a (.int .u32 vv) ∧
  If (decide (p ≥ vv)) (
  Ix l.a l.len i 2 fun a_1 =>
  ∃ vv_1 : Int, Cell w1 (a_1.add 1) (.int .u32 vv_1) ∧
  If (decide (p < vv_1)) (
  K true w1) (
  Ar .i64 (i + 1) fun z =>
  ∃ m1, m1 < m0 ∧ I0 m1 z w1)) (
  Ar .i64 (i + 1) fun z_1 =>
  ∃ m1, m1 < m0 ∧ I0 m1 z_1 w1)) (
  K false w1)
def A_ref11_Has : Ann := (.seq .nil (.seq (.seq .nil (.block (.loop [(5, .int .i64)] 268435440 (.seq (.seq .nil (.cond .nil .nil)) (.seq (.block (.seq .nil (.cond (.seq .nil .nil) .nil))) .nil))))) (.seq .nil .nil)))
theorem S_ref11_Has {l : Sl} {p : Int} {w : World} {K : Bool → World → Prop} (h : F_ref11_Has l p w K) : C_ref11_Has l p w K := by
  have h1 : wpc Try.prog A_ref11_Has (Try.f28.body.getD .skip) (retK Try.prog [.one (.bool)] Try.f28.results.toList K) (argEnv [.slice l.a l.len l.cap, .int .u32 p]) w := cast (by kernel_rfl : F_ref11_Has l p w K = wpc Try.prog A_ref11_Has (Try.f28.body.getD .skip) (retK Try.prog [.one (.bool)] Try.f28.results.toList K) (argEnv [.slice l.a l.len l.cap, .int .u32 p]) w) h
  have h2 : chk Try.prog Try.f28.ntmps A_ref11_Has (Try.f28.body.getD .skip) = true := by kernel_rfl
  have h4 : Nat.ble (List.length (α := Value) [.slice l.a l.len l.cap, .int .u32 p]) Try.f28.ntmps = true := by kernel_rfl
  have h5 : Try.f28.body = some (Try.f28.body.getD .skip) := by kernel_rfl
  have h6 := @fn_sound Try.prog 28 Try.f28 (Try.f28.body.getD .skip) A_ref11_Has [.slice l.a l.len l.cap, .int .u32 p] [.one (.bool)] K w Try.func28 h5 h2 h4 h1
  exact cast (by kernel_rfl : callK Try.prog 28 (List.toArray (α := Value) [.slice l.a l.len l.cap, .int .u32 p]) [.one (.bool)] K w = C_ref11_Has l p w K) h6

def F_law11_RunsMake (fromv : Int) (to : Int) (l : Sl) (p : Int) (w : World) (K : Bool → World → Prop) : Prop :=
  C_runs_Make fromv to w fun r w1 =>
  ∃ J0 : World → Prop, (
  If (decide (fromv < to)) (
  If (((r.len : Int)) != 1) (
  K false w1) (
  Ix r.a r.len 0 2 fun a =>
  ∃ c : Int, Cell w1 a (.int .u32 c) ∧
  ∃ c_1 : Int, Cell w1 (a.add 1) (.int .u32 c_1) ∧
  If (!((c == fromv) && ((c_1 == to) && (true)))) (
  K false w1) (
  If (decide (fromv ≥ to)) (
  If (((r.len : Int)) != 0) (
  K false w1) (
  J0 w1)) (
  J0 w1)))) (
  If (decide (fromv ≥ to)) (
  If (((r.len : Int)) != 0) (
  K false w1) (
  J0 w1)) (
  J0 w1))) ∧ ∀ (_ : Env) (w2 : World), J0 w2 →
  C_runs_Right l w2 fun r_1 w3 =>
  C_runs_Count l w3 fun r0_1 r1 w4 =>
  C_runs_Has l p w4 fun r0_2 r1_1 w5 =>
  C_ref11_Right l w5 fun r_2 w6 =>
  If (!(r_1 == r_2)) (
  K false w6) (
  If (!r_1) (
  If (r0_1 == 0) (
  If (r1 == 2) (
  If (!r0_2) (
  If (r1_1 == 2) (
  C_law11_known  w6 fun r_3 w7 =>
  K r_3 w7) (
  K false w6)) (
  K false w6)) (
  K false w6)) (
  K false w6)) (
  C_ref11_Count l w6 fun r_4 w8 =>
  If (r0_1 == r_4) (
  If (r1 == 0) (
  C_ref11_Has l p w8 fun r_5 w9 =>
  If (r0_2 == r_5) (
  If (r1_1 == 0) (
  C_law11_known  w9 fun r_6 w10 =>
  K r_6 w10) (
  K false w9)) (
  K false w9)) (
  K false w8)) (
  K false w8)))
def A_law11_RunsMake : Ann := (.seq .nil (.seq .nil (.join [] 35184371826944 (.seq .nil (.cond (.seq .nil .nil) .nil)) (.seq .nil (.seq .nil (.seq .nil (.seq (.seq .nil (.cond (.seq .nil .nil) .nil)) (.seq (.seq .nil (.cond (.seq .nil .nil) .nil)) (.seq .nil .nil)))))))))
theorem S_law11_RunsMake {fromv : Int} {to : Int} {l : Sl} {p : Int} {w : World} {K : Bool → World → Prop} (h : F_law11_RunsMake fromv to l p w K) : C_law11_RunsMake fromv to l p w K := by
  have h1 : wpc Try.prog A_law11_RunsMake (Try.f6.body.getD .skip) (retK Try.prog [.one (.bool)] Try.f6.results.toList K) (argEnv [.int .u32 fromv, .int .u32 to, .slice l.a l.len l.cap, .int .u32 p]) w := cast (by kernel_rfl : F_law11_RunsMake fromv to l p w K = wpc Try.prog A_law11_RunsMake (Try.f6.body.getD .skip) (retK Try.prog [.one (.bool)] Try.f6.results.toList K) (argEnv [.int .u32 fromv, .int .u32 to, .slice l.a l.len l.cap, .int .u32 p]) w) h
  have h2 : chk Try.prog Try.f6.ntmps A_law11_RunsMake (Try.f6.body.getD .skip) = true := by kernel_rfl
  have h4 : Nat.ble (List.length (α := Value) [.int .u32 fromv, .int .u32 to, .slice l.a l.len l.cap, .int .u32 p]) Try.f6.ntmps = true := by kernel_rfl
  have h5 : Try.f6.body = some (Try.f6.body.getD .skip) := by kernel_rfl
  have h6 := @fn_sound Try.prog 6 Try.f6 (Try.f6.body.getD .skip) A_law11_RunsMake [.int .u32 fromv, .int .u32 to, .slice l.a l.len l.cap, .int .u32 p] [.one (.bool)] K w Try.func6 h5 h2 h4 h1
  exact cast (by kernel_rfl : callK Try.prog 6 (List.toArray (α := Value) [.int .u32 fromv, .int .u32 to, .slice l.a l.len l.cap, .int .u32 p]) [.one (.bool)] K w = C_law11_RunsMake fromv to l p w K) h6

def F_law11_RunsTaken (l : Sl) (w : World) (K : Bool → World → Prop) : Prop :=
  C_runs_Right l w fun r w1 =>
  If (!r) (
  C_law11_known  w1 fun r_1 w2 =>
  K r_1 w2) (
  C_runs_Count l w1 fun r0_1 r1 w3 =>
  If (r1 != 0) (
  K false w3) (
  ∃ I0 : Nat → Sl → Int → Int → World → Prop, (∃ m, I0 m l (-1) 0 w3) ∧ ∀ (_ : Env) (m0 : Nat) (rest : Sl) (last : Int) (i : Int) (w4 : World), I0 m0 rest last i w4 →
  Nm (iMin r0_1 300) fun z =>
  If (decide (i < z)) (
  C_runs_Take rest w4 fun r0_2 r1_1 r2 w5 =>
  C_runs_Has l r0_2 w5 fun r0_3 r1_2 w6 =>
  C_runs_Count r1_1 w6 fun r0_4 r1_3 w7 =>
  If (r2 != 0) (
  K false w7) (
  If (r1_2 != 0) (
  K false w7) (
  If (r1_3 != 0) (
  K false w7) (
  If (!r0_3) (
  K false w7) (
  Ar .i64 r0_2 fun z_1 =>
  If (decide (z_1 ≤ last)) (
  K false w7) (
  Ar .u64 (r0_1 - i) fun z_2 =>
  Ar .u64 (z_2 - 1) fun z_3 =>
  If (r0_4 != z_3) (
  K false w7) (
  Ar .i64 r0_2 fun z_4 =>
  Ar .u64 (i + 1) fun z_5 =>
  ∃ m1, m1 < m0 ∧ I0 m1 r1_1 z_4 z_5 w7))))))) (
  C_runs_Take rest w4 fun _r0_5 r1_4 r2_1 w8 =>
  If (decide (r0_1 > 300)) (
  C_law11_known  w8 fun r_2 w9 =>
  K r_2 w9) (
  If (r2_1 == 9) (
  If (((r1_4.len : Int)) == 0) (
  C_law11_known  w8 fun r_3 w10 =>
  K r_3 w10) (
  K false w8)) (
  K false w8)))))
def A_law11_RunsTaken : Ann := (.seq .nil (.seq (.seq .nil (.cond (.seq .nil .nil) .nil)) (.seq .nil (.seq (.seq .nil (.cond (.seq .nil .nil) .nil)) (.seq .nil (.seq .nil (.seq (.seq .nil (.block (.loop [(5, .sl), (6, .int .i64), (7, .int .u64)] 9671406556917032860811236 (.seq (.seq .nil (.cond .nil .nil)) (.seq (.block (.seq .nil (.seq .nil (.seq .nil (.seq (.seq .nil (.cond (.seq .nil .nil) .nil)) (.seq .nil .nil)))))) .nil))))) (.seq .nil (.seq .nil .nil)))))))))
theorem S_law11_RunsTaken {l : Sl} {w : World} {K : Bool → World → Prop} (h : F_law11_RunsTaken l w K) : C_law11_RunsTaken l w K := by
  have h1 : wpc Try.prog A_law11_RunsTaken (Try.f7.body.getD .skip) (retK Try.prog [.one (.bool)] Try.f7.results.toList K) (argEnv [.slice l.a l.len l.cap]) w := cast (by kernel_rfl : F_law11_RunsTaken l w K = wpc Try.prog A_law11_RunsTaken (Try.f7.body.getD .skip) (retK Try.prog [.one (.bool)] Try.f7.results.toList K) (argEnv [.slice l.a l.len l.cap]) w) h
  have h2 : chk Try.prog Try.f7.ntmps A_law11_RunsTaken (Try.f7.body.getD .skip) = true := by kernel_rfl
  have h4 : Nat.ble (List.length (α := Value) [.slice l.a l.len l.cap]) Try.f7.ntmps = true := by kernel_rfl
  have h5 : Try.f7.body = some (Try.f7.body.getD .skip) := by kernel_rfl
  have h6 := @fn_sound Try.prog 7 Try.f7 (Try.f7.body.getD .skip) A_law11_RunsTaken [.slice l.a l.len l.cap] [.one (.bool)] K w Try.func7 h5 h2 h4 h1
  exact cast (by kernel_rfl : callK Try.prog 7 (List.toArray (α := Value) [.slice l.a l.len l.cap]) [.one (.bool)] K w = C_law11_RunsTaken l w K) h6

def F_runs_Drop (l : Sl) (p : Int) (w : World) (K : Sl → Int → World → Prop) : Prop :=
  C_runs_Has l p w fun r0_1 r1_1 w1 =>
  If (r1_1 != 0) (
  K ⟨none, 0, 0⟩ r1_1 w1) (
  If (!r0_1) (
  K ⟨none, 0, 0⟩ 7 w1) (
  C_runs_place l p w1 fun r w2 =>
  NewW w2 (.cells [].toArray 32) fun b w3 =>
  Cut l 0 r (((l.cap : Nat) : Int)) 2 fun s =>
  AppW Try.prog 22 22 ⟨some (Addr.mk b 0 none), 0, 0⟩ (.slice s.a s.len s.cap) (fun s_1 w4 =>
  Ix l.a l.len r 2 fun a =>
  ∃ vv : Int, Cell w4 a (.int .u32 vv) ∧
  C_runs_Make vv p w4 fun r_1 w5 =>
  AppW Try.prog 22 22 s_1 (.slice r_1.a r_1.len r_1.cap) (fun s_2 w6 =>
  Ar .u32 (p + 1) fun z =>
  Ix l.a l.len r 2 fun a_1 =>
  ∃ vv_1 : Int, Cell w6 (a_1.add 1) (.int .u32 vv_1) ∧
  C_runs_Make z vv_1 w6 fun r_2 w7 =>
  AppW Try.prog 22 22 s_2 (.slice r_2.a r_2.len r_2.cap) (fun s_3 w8 =>
  Ar .i64 (r + 1) fun z_1 =>
  Cut l z_1 (((l.len : Nat) : Int)) (((l.cap : Nat) : Int)) 2 fun s_4 =>
  AppW Try.prog 22 22 s_3 (.slice s_4.a s_4.len s_4.cap) (fun s_5 w9 =>
  K s_5 0 w9) w8) w7) w5) w3))
def A_runs_Drop : Ann := (.seq .nil (.seq .nil (.seq (.block (.seq .nil (.cond (.seq .nil .nil) (.seq .nil (.cond (.seq .nil .nil) .nil))))) (.seq .nil (.seq .nil (.seq .nil (.seq .nil (.seq .nil .nil))))))))
theorem S_runs_Drop {l : Sl} {p : Int} {w : World} {K : Sl → Int → World → Prop} (h : F_runs_Drop l p w K) : C_runs_Drop l p w K := by
  have h1 : wpc Try.prog A_runs_Drop (Try.f30.body.getD .skip) (retK Try.prog [.one (.sl), .one (.int .i64)] Try.f30.results.toList K) (argEnv [.slice l.a l.len l.cap, .int .u32 p]) w := cast (by kernel_rfl : F_runs_Drop l p w K = wpc Try.prog A_runs_Drop (Try.f30.body.getD .skip) (retK Try.prog [.one (.sl), .one (.int .i64)] Try.f30.results.toList K) (argEnv [.slice l.a l.len l.cap, .int .u32 p]) w) h
  have h2 : chk Try.prog Try.f30.ntmps A_runs_Drop (Try.f30.body.getD .skip) = true := by kernel_rfl
  have h4 : Nat.ble (List.length (α := Value) [.slice l.a l.len l.cap, .int .u32 p]) Try.f30.ntmps = true := by kernel_rfl
  have h5 : Try.f30.body = some (Try.f30.body.getD .skip) := by kernel_rfl
  have h6 := @fn_sound Try.prog 30 Try.f30 (Try.f30.body.getD .skip) A_runs_Drop [.slice l.a l.len l.cap, .int .u32 p] [.one (.sl), .one (.int .i64)] K w Try.func30 h5 h2 h4 h1
  exact cast (by kernel_rfl : callK Try.prog 30 (List.toArray (α := Value) [.slice l.a l.len l.cap, .int .u32 p]) [.one (.sl), .one (.int .i64)] K w = C_runs_Drop l p w K) h6

def F_ref11_grown (l : Sl) (p : Int) (w : World) (K : Sl → World → Prop) : Prop :=
  ∃ J1 : World → Prop, (
  ∃ J0 : Bool → World → Prop, (
  If (decide (((l.len : Int)) > 0)) (
  Ar .i64 (((l.len : Int)) - 1) fun z =>
  Ix l.a l.len z 2 fun a =>
  ∃ vv : Int, Cell w (a.add 1) (.int .u32 vv) ∧
  J0 (vv == p) w) (
  J0 false w)) ∧ ∀ (_ : Env) (t : Bool) (w1 : World), J0 t w1 →
  If t (
  Ar .i64 (((l.len : Int)) - 1) fun z_1 =>
  Ar .u32 (p + 1) fun z_2 =>
  Ix l.a l.len z_1 2 fun a_1 =>
  St1 w1 (a_1.add 1) (.int .u32 z_2) fun w2 =>
  K l w2) (
  J1 w1)) ∧ ∀ (_ : Env) (w3 : World), J1 w3 →
  Ar .u32 (p + 1) fun z_3 =>
  NewW w3 (.cells [.int .u32 p, .int .u32 z_3].toArray 32) fun b w4 =>
  AppW Try.prog 22 22 l (.slice (some (Addr.mk b 0 none)) 1 1) (fun s w5 =>
  K s w5) w4
def A_ref11_grown : Ann := (.seq .nil (.join [] 268435440 (.join [(18, .bool)] 524256 .nil (.cond (.seq .nil (.seq .nil .nil)) .nil)) (.seq .nil .nil)))
theorem S_ref11_grown {l : Sl} {p : Int} {w : World} {K : Sl → World → Prop} (h : F_ref11_grown l p w K) : C_ref11_grown l p w K := by
  have h1 : wpc Try.prog A_ref11_grown (Try.f42.body.getD .skip) (retK Try.prog [.one (.sl)] Try.f42.results.toList K) (argEnv [.slice l.a l.len l.cap, .int .u32 p]) w := cast (by kernel_rfl : F_ref11_grown l p w K = wpc Try.prog A_ref11_grown (Try.f42.body.getD .skip) (retK Try.prog [.one (.sl)] Try.f42.results.toList K) (argEnv [.slice l.a l.len l.cap, .int .u32 p]) w) h
  have h2 : chk Try.prog Try.f42.ntmps A_ref11_grown (Try.f42.body.getD .skip) = true := by kernel_rfl
  have h4 : Nat.ble (List.length (α := Value) [.slice l.a l.len l.cap, .int .u32 p]) Try.f42.ntmps = true := by kernel_rfl
  have h5 : Try.f42.body = some (Try.f42.body.getD .skip) := by kernel_rfl
  have h6 := @fn_sound Try.prog 42 Try.f42 (Try.f42.body.getD .skip) A_ref11_grown [.slice l.a l.len l.cap, .int .u32 p] [.one (.sl)] K w Try.func42 h5 h2 h4 h1
  exact cast (by kernel_rfl : callK Try.prog 42 (List.toArray (α := Value) [.slice l.a l.len l.cap, .int .u32 p]) [.one (.sl)] K w = C_ref11_grown l p w K) h6

def F_ref11_Give (l : Sl) (p : Int) (w : World) (K : Sl → World → Prop) : Prop :=
  ∃ I0 : Nat → Sl → Bool → Int → World → Prop, (∃ m, I0 m ⟨none, 0, 0⟩ false 0 w) ∧ ∀ (_ : Env) (m0 : Nat) (out : Sl) (done : Bool) (i : Int) (w1 : World), I0 m0 out done i w1 →
  If (decide (i < ((l.len : Int)))) (
  ∃ J1 : Sl → Bool → World → Prop, (
  If (!done) (
  Ix l.a l.len i 2 fun a =>
  ∃ vv : Int, Cell w1 a (.int .u32 vv) ∧
  If (decide (vv > p)) (
  C_ref11_grown out p w1 fun r w2 =>
  J1 r true w2) (
  J1 out done w1)) (
  J1 out done w1)) ∧ ∀ (_ : Env) (out_1 : Sl) (done_1 : Bool) (w3 : World), J1 out_1 done_1 w3 →
  ∃ J0 : Bool → World → Prop, (
  ∃ S : World → Prop, S (drewW w3) ∧
  If (decide (((out_1.len : Int)) > 0)) (
  Ar .i64 (((out_1.len : Int)) - 1) fun z =>
  Ix out_1.a out_1.len z 2 fun a_1 =>
  ∃ vv_1 : Int, Held S (a_1.add 1) (.int .u32 vv_1) ∧
  Ix l.a l.len i 2 fun a_2 =>
  ∃ vv_2 : Int, Held S a_2 (.int .u32 vv_2) ∧
  J0 (vv_1 == vv_2) ((drewW w3))) (
  J0 false ((drewW w3)))) ∧ ∀ (_ : Env) (t : Bool) (w4 : World), J0 t w4 →
  If t (
  Ar .i64 (((out_1.len : Int)) - 1) fun z_1 =>
  Ix l.a l.len i 2 fun a_3 =>
  ∃ vv_3 : Int, Cell w4 (a_3.add 1) (.int .u32 vv_3) ∧
  Ix out_1.a out_1.len z_1 2 fun a_4 =>
  St1 w4 (a_4.add 1) (.int .u32 vv_3) fun w5 =>
  Ar .i64 (i + 1) fun z_2 =>
  ∃ m1, m1 < m0 ∧ I0 m1 out_1 done_1 z_2 w5) (
  Ix l.a l.len i 2 fun a_5 =>
  ∃ c : Int, Cell w4 a_5 (.int .u32 c) ∧
  ∃ c_1 : Int, Cell w4 (a_5.add 1) (.int .u32 c_1) ∧
  NewW w4 (.cells [.int .u32 c, .int .u32 c_1].toArray 32) fun b w6 =>
  AppW Try.prog 22 22 out_1 (.slice (some (Addr.mk b 0 none)) 1 1) (fun s w7 =>
  Ar .i64 (i + 1) fun z_3 =>
  ∃ m1, m1 < m0 ∧ I0 m1 s done_1 z_3 w7) w6)) (
  If (!done) (
  C_ref11_grown out p w1 fun r_1 w8 =>
  K r_1 w8) (
  K out w1))
def A_ref11_Give : Ann := (.seq .nil (.seq .nil (.seq .nil (.seq (.seq .nil (.block (.loop [(5, .sl), (6, .bool), (7, .int .i64)] 18446744073709551584 (.seq (.seq .nil (.cond .nil .nil)) (.seq (.block (.join [(5, .sl), (6, .bool)] 268419168 (.seq .nil (.cond (.seq .nil .nil) .nil)) (.join [(45, .bool)] 70368475742208 (.draw (.take 0 (.take 1 (.take 2 (.take 3 (.take 4 (.take 5 (.take 6 (.take 7 (.take 8 (.take 9 (.take 10 (.take 11 (.take 12 (.take 13 (.take 14 (.take 15 (.take 16 (.take 17 .fin))))))))))))))))))) (.cond .nil .nil)))) .nil))))) (.seq (.seq .nil (.cond .nil .nil)) (.seq .nil .nil))))))
theorem S_ref11_Give {l : Sl} {p : Int} {w : World} {K : Sl → World → Prop} (h : F_ref11_Give l p w K) : C_ref11_Give l p w K := by
  have h1 : wpc Try.prog A_ref11_Give (Try.f31.body.getD .skip) (retK Try.prog [.one (.sl)] Try.f31.results.toList K) (argEnv [.slice l.a l.len l.cap, .int .u32 p]) w := cast (by kernel_rfl : F_ref11_Give l p w K = wpc Try.prog A_ref11_Give (Try.f31.body.getD .skip) (retK Try.prog [.one (.sl)] Try.f31.results.toList K) (argEnv [.slice l.a l.len l.cap, .int .u32 p]) w) h
  have h2 : chk Try.prog Try.f31.ntmps A_ref11_Give (Try.f31.body.getD .skip) = true := by kernel_rfl
  have h4 : Nat.ble (List.length (α := Value) [.slice l.a l.len l.cap, .int .u32 p]) Try.f31.ntmps = true := by kernel_rfl
  have h5 : Try.f31.body = some (Try.f31.body.getD .skip) := by kernel_rfl
  have h6 := @fn_sound Try.prog 31 Try.f31 (Try.f31.body.getD .skip) A_ref11_Give [.slice l.a l.len l.cap, .int .u32 p] [.one (.sl)] K w Try.func31 h5 h2 h4 h1
  exact cast (by kernel_rfl : callK Try.prog 31 (List.toArray (α := Value) [.slice l.a l.len l.cap, .int .u32 p]) [.one (.sl)] K w = C_ref11_Give l p w K) h6

def F_law11_RunsGives (l : Sl) (p : Int) (w : World) (K : Bool → World → Prop) : Prop :=
  C_law11_own l w fun r w1 =>
  C_runs_Give r p w1 fun r0_1 r1 w2 =>
  C_runs_Drop r p w2 fun r0_2 r1_1 w3 =>
  C_ref11_Same r l w3 fun r_1 w4 =>
  If (!r_1) (
  K false w4) (
  C_ref11_Right l w4 fun r_2 w5 =>
  If (!r_2) (
  If (((r0_1.len : Int)) == 0) (
  If (r1 == 2) (
  If (((r0_2.len : Int)) == 0) (
  If (r1_1 == 2) (
  C_law11_known  w5 fun r_3 w6 =>
  K r_3 w6) (
  K false w5)) (
  K false w5)) (
  K false w5)) (
  K false w5)) (
  C_ref11_Has l p w5 fun r_4 w7 =>
  ∃ J1 : World → Prop, (
  If (p == 4294967295) (
  If (((r0_1.len : Int)) != 0) (
  K false w7) (
  If (r1 != 2) (
  K false w7) (
  J1 w7))) (
  If r_4 (
  If (((r0_1.len : Int)) != 0) (
  K false w7) (
  If (r1 != 8) (
  K false w7) (
  J1 w7))) (
  If (r1 != 0) (
  K false w7) (
  C_ref11_Give l p w7 fun r_5 w8 =>
  C_ref11_Same r0_1 r_5 w8 fun r_6 w9 =>
  If (!r_6) (
  K false w9) (
  J1 w9))))) ∧ ∀ (_ : Env) (w10 : World), J1 w10 →
  ∃ J0 : World → Prop, (
  If (!r_4) (
  If (((r0_2.len : Int)) != 0) (
  K false w10) (
  If (r1_1 != 7) (
  K false w10) (
  J0 w10))) (
  If (r1_1 != 0) (
  K false w10) (
  C_ref11_Drop l p w10 fun r_7 w11 =>
  C_ref11_Same r0_2 r_7 w11 fun r_8 w12 =>
  If (!r_8) (
  K false w12) (
  J0 w12)))) ∧ ∀ (_ : Env) (w13 : World), J0 w13 →
  C_law11_spoil r0_1 w13 fun w14 =>
  C_law11_spoil r0_2 w14 fun w15 =>
  C_ref11_Same r l w15 fun r_9 w16 =>
  If r_9 (
  C_law11_known  w16 fun r_10 w17 =>
  K r_10 w17) (
  K false w16)))
def A_law11_RunsGives : Ann := (.seq .nil (.seq .nil (.seq .nil (.seq .nil (.seq (.seq .nil (.cond (.seq .nil .nil) .nil)) (.seq (.seq .nil (.cond (.seq .nil .nil) .nil)) (.seq .nil (.join [] 9671406538902634888167440 (.block (.seq .nil (.cond (.seq .nil (.cond (.seq .nil .nil) .nil)) (.seq .nil (.cond (.seq .nil (.cond (.seq .nil .nil) .nil)) (.seq .nil (.cond (.seq .nil .nil) .nil))))))) (.join [] 5070592729506360688953415172112 (.seq .nil (.cond (.seq .nil (.cond (.seq .nil .nil) .nil)) (.seq .nil (.cond (.seq .nil .nil) .nil)))) (.seq .nil (.seq .nil (.seq .nil .nil))))))))))))
theorem S_law11_RunsGives {l : Sl} {p : Int} {w : World} {K : Bool → World → Prop} (h : F_law11_RunsGives l p w K) : C_law11_RunsGives l p w K := by
  have h1 : wpc Try.prog A_law11_RunsGives (Try.f8.body.getD .skip) (retK Try.prog [.one (.bool)] Try.f8.results.toList K) (argEnv [.slice l.a l.len l.cap, .int .u32 p]) w := cast (by kernel_rfl : F_law11_RunsGives l p w K = wpc Try.prog A_law11_RunsGives (Try.f8.body.getD .skip) (retK Try.prog [.one (.bool)] Try.f8.results.toList K) (argEnv [.slice l.a l.len l.cap, .int .u32 p]) w) h
  have h2 : chk Try.prog Try.f8.ntmps A_law11_RunsGives (Try.f8.body.getD .skip) = true := by kernel_rfl
  have h4 : Nat.ble (List.length (α := Value) [.slice l.a l.len l.cap, .int .u32 p]) Try.f8.ntmps = true := by kernel_rfl
  have h5 : Try.f8.body = some (Try.f8.body.getD .skip) := by kernel_rfl
  have h6 := @fn_sound Try.prog 8 Try.f8 (Try.f8.body.getD .skip) A_law11_RunsGives [.slice l.a l.len l.cap, .int .u32 p] [.one (.bool)] K w Try.func8 h5 h2 h4 h1
  exact cast (by kernel_rfl : callK Try.prog 8 (List.toArray (α := Value) [.slice l.a l.len l.cap, .int .u32 p]) [.one (.bool)] K w = C_law11_RunsGives l p w K) h6

def F_pack_Num (n : Int) (w : World) (K : Sl → World → Prop) : Prop :=
  ∃ I0 : Nat → Int → Sl → World → Prop, (∃ m, I0 m n ⟨none, 0, 0⟩ w) ∧ ∀ (_ : Env) (m0 : Nat) (n_1 : Int) (b : Sl) (w1 : World), I0 m0 n_1 b w1 →
  If (decide (n_1 > 127)) (
  Ar .u8 n_1 fun z =>
  Nm (bitI .or .u8 z 128) fun z_1 =>
  NewW w1 (.cells [.int .u8 z_1].toArray 5) fun b_1 w2 =>
  AppW Try.prog 49 49 b (.slice (some (Addr.mk b_1 0 none)) 1 1) (fun s w3 =>
  (0 : Int) ≤ 7 ∧ Nm (Int.fdiv n_1 (2 ^ min (Int.toNat 7) (IntKind.bits .u64))) fun z_2 =>
  ∃ m1, m1 < m0 ∧ I0 m1 z_2 s w3) w2) (
  Ar .u8 n_1 fun z_3 =>
  NewW w1 (.cells [.int .u8 z_3].toArray 5) fun b_2 w4 =>
  AppW Try.prog 49 49 b (.slice (some (Addr.mk b_2 0 none)) 1 1) (fun s_1 w5 =>
  K s_1 w5) w4)
def A_pack_Num : Ann := (.seq .nil (.seq .nil (.seq (.block (.loop [(0, .int .u64), (3, .sl)] 16377 (.seq (.seq .nil (.cond .nil .nil)) (.block (.seq .nil .nil))))) (.seq .nil .nil))))
theorem S_pack_Num {n : Int} {w : World} {K : Sl → World → Prop} (h : F_pack_Num n w K) : C_pack_Num n w K := by
  have h1 : wpc Try.prog A_pack_Num (Try.f43.body.getD .skip) (retK Try.prog [.one (.sl)] Try.f43.results.toList K) (argEnv [.int .u64 n]) w := cast (by kernel_rfl : F_pack_Num n w K = wpc Try.prog A_pack_Num (Try.f43.body.getD .skip) (retK Try.prog [.one (.sl)] Try.f43.results.toList K) (argEnv [.int .u64 n]) w) h
  have h2 : chk Try.prog Try.f43.ntmps A_pack_Num (Try.f43.body.getD .skip) = true := by kernel_rfl
  have h4 : Nat.ble (List.length (α := Value) [.int .u64 n]) Try.f43.ntmps = true := by kernel_rfl
  have h5 : Try.f43.body = some (Try.f43.body.getD .skip) := by kernel_rfl
  have h6 := @fn_sound Try.prog 43 Try.f43 (Try.f43.body.getD .skip) A_pack_Num [.int .u64 n] [.one (.sl)] K w Try.func43 h5 h2 h4 h1
  exact cast (by kernel_rfl : callK Try.prog 43 (List.toArray (α := Value) [.int .u64 n]) [.one (.sl)] K w = C_pack_Num n w K) h6

def F_runs_Encode (l : Sl) (w : World) (K : Sl → Int → World → Prop) : Prop :=
  C_runs_Right l w fun r w1 =>
  If (!r) (
  K ⟨none, 0, 0⟩ 2 w1) (
  Ar .u64 ((l.len : Int)) fun z =>
  C_pack_Num z w1 fun r_1 w2 =>
  ∃ I0 : Nat → Sl → Int → Int → World → Prop, (∃ m, I0 m r_1 0 0 w2) ∧ ∀ (_ : Env) (m0 : Nat) (b : Sl) (endv : Int) (t : Int) (w3 : World), I0 m0 b endv t w3 →
  If (decide (t < ((l.len : Int)))) (
  Ix l.a l.len t 2 fun a =>
  ∃ c : Int, Cell w3 a (.int .u32 c) ∧
  ∃ c_1 : Int, Cell w3 (a.add 1) (.int .u32 c_1) ∧
  NewW w3 (.cells [.int .u32 0, .int .u32 0].toArray 32) fun b_1 w4 =>
  List.length (α := Value) [.int .u32 c, .int .u32 c_1] = 2 ∧ StN w4 (Addr.mk b_1 0 none) [.int .u32 c, .int .u32 c_1] fun w5 =>
  ∃ vv : Int, Cell w5 (Addr.mk b_1 0 none) (.int .u32 vv) ∧
  Ar .u32 (vv - endv) fun z_1 =>
  Ar .u64 z_1 fun z_2 =>
  C_pack_Num z_2 w5 fun r_2 w6 =>
  AppW Try.prog 49 49 b (.slice r_2.a r_2.len r_2.cap) (fun s w7 =>
  ∃ vv_1 : Int, Cell w7 ((Addr.mk b_1 0 none).add 1) (.int .u32 vv_1) ∧
  ∃ vv_2 : Int, Cell w7 (Addr.mk b_1 0 none) (.int .u32 vv_2) ∧
  Ar .u32 (vv_1 - vv_2) fun z_3 =>
  Ar .u64 z_3 fun z_4 =>
  C_pack_Num z_4 w7 fun r_3 w8 =>
  AppW Try.prog 49 49 s (.slice r_3.a r_3.len r_3.cap) (fun s_1 w9 =>
  ∃ vv_3 : Int, Cell w9 ((Addr.mk b_1 0 none).add 1) (.int .u32 vv_3) ∧
  Ar .i64 (t + 1) fun z_5 =>
  ∃ m1, m1 < m0 ∧ I0 m1 s_1 vv_3 z_5 w9) w8) w6) (
  K b 0 w3))
def A_runs_Encode : Ann := (.seq .nil (.seq (.seq .nil (.cond (.seq .nil .nil) .nil)) (.seq .nil (.seq .nil (.seq (.seq .nil (.block (.loop [(4, .sl), (5, .int .u32), (17, .int .i64)] 2199023124656 (.seq .nil (.seq (.cond .nil .nil) (.seq (.block (.seq .nil (.seq .nil (.seq .nil .nil)))) .nil)))))) (.seq .nil .nil))))))
theorem S_runs_Encode {l : Sl} {w : World} {K : Sl → Int → World → Prop} (h : F_runs_Encode l w K) : C_runs_Encode l w K := by
  have h1 : wpc Try.prog A_runs_Encode (Try.f32.body.getD .skip) (retK Try.prog [.one (.sl), .one (.int .i64)] Try.f32.results.toList K) (argEnv [.slice l.a l.len l.cap]) w := cast (by kernel_rfl : F_runs_Encode l w K = wpc Try.prog A_runs_Encode (Try.f32.body.getD .skip) (retK Try.prog [.one (.sl), .one (.int .i64)] Try.f32.results.toList K) (argEnv [.slice l.a l.len l.cap]) w) h
  have h2 : chk Try.prog Try.f32.ntmps A_runs_Encode (Try.f32.body.getD .skip) = true := by kernel_rfl
  have h4 : Nat.ble (List.length (α := Value) [.slice l.a l.len l.cap]) Try.f32.ntmps = true := by kernel_rfl
  have h5 : Try.f32.body = some (Try.f32.body.getD .skip) := by kernel_rfl
  have h6 := @fn_sound Try.prog 32 Try.f32 (Try.f32.body.getD .skip) A_runs_Encode [.slice l.a l.len l.cap] [.one (.sl), .one (.int .i64)] K w Try.func32 h5 h2 h4 h1
  exact cast (by kernel_rfl : callK Try.prog 32 (List.toArray (α := Value) [.slice l.a l.len l.cap]) [.one (.sl), .one (.int .i64)] K w = C_runs_Encode l w K) h6

def F_ref01_Same (a : Sl) (b : Sl) (w : World) (K : Bool → World → Prop) : Prop :=
  StrC (Cell w) a fun str =>
  StrC (Cell w) b fun str_1 =>
  K (ByteArray.toList str == ByteArray.toList str_1) w
def A_ref01_Same : Ann := (.seq .nil (.seq .nil .nil))
theorem S_ref01_Same {a : Sl} {b : Sl} {w : World} {K : Bool → World → Prop} (h : F_ref01_Same a b w K) : C_ref01_Same a b w K := by
  have h1 : wpc Try.prog A_ref01_Same (Try.f33.body.getD .skip) (retK Try.prog [.one (.bool)] Try.f33.results.toList K) (argEnv [.slice a.a a.len a.cap, .slice b.a b.len b.cap]) w := cast (by kernel_rfl : F_ref01_Same a b w K = wpc Try.prog A_ref01_Same (Try.f33.body.getD .skip) (retK Try.prog [.one (.bool)] Try.f33.results.toList K) (argEnv [.slice a.a a.len a.cap, .slice b.a b.len b.cap]) w) h
  have h2 : chk Try.prog Try.f33.ntmps A_ref01_Same (Try.f33.body.getD .skip) = true := by kernel_rfl
  have h4 : Nat.ble (List.length (α := Value) [.slice a.a a.len a.cap, .slice b.a b.len b.cap]) Try.f33.ntmps = true := by kernel_rfl
  have h5 : Try.f33.body = some (Try.f33.body.getD .skip) := by kernel_rfl
  have h6 := @fn_sound Try.prog 33 Try.f33 (Try.f33.body.getD .skip) A_ref01_Same [.slice a.a a.len a.cap, .slice b.a b.len b.cap] [.one (.bool)] K w Try.func33 h5 h2 h4 h1
  exact cast (by kernel_rfl : callK Try.prog 33 (List.toArray (α := Value) [.slice a.a a.len a.cap, .slice b.a b.len b.cap]) [.one (.bool)] K w = C_ref01_Same a b w K) h6

def F_ref07_Num (n : Int) (w : World) (K : Sl → World → Prop) : Prop :=
  If (decide (n < 128)) (
  Ar .u8 n fun z =>
  NewW w (.cells [.int .u8 z].toArray 5) fun b w1 =>
  K ⟨some (Addr.mk b 0 none), 1, 1⟩ w1) (
  (128 : Int) ≠ 0 ∧ Nm (Int.tmod n 128) fun z_1 =>
  Ar .u8 z_1 fun z_2 =>
  Ar .u8 (z_2 + 128) fun z_3 =>
  NewW w (.cells [.int .u8 z_3].toArray 5) fun b_1 w2 =>
  (128 : Int) ≠ 0 ∧ Ar .u64 (Int.tdiv n 128) fun z_4 =>
  C_ref07_Num z_4 w2 fun r w3 =>
  AppW Try.prog 49 49 ⟨some (Addr.mk b_1 0 none), 1, 1⟩ (.slice r.a r.len r.cap) (fun s w4 =>
  K s w4) w3)
def A_ref07_Num : Ann := (.seq .nil (.seq (.seq .nil (.cond (.seq .nil .nil) .nil)) (.seq .nil .nil)))
theorem S_ref07_Num {n : Int} {w : World} {K : Sl → World → Prop} (h : F_ref07_Num n w K) : C_ref07_Num n w K := by
  have h1 : wpc Try.prog A_ref07_Num (Try.f44.body.getD .skip) (retK Try.prog [.one (.sl)] Try.f44.results.toList K) (argEnv [.int .u64 n]) w := cast (by kernel_rfl : F_ref07_Num n w K = wpc Try.prog A_ref07_Num (Try.f44.body.getD .skip) (retK Try.prog [.one (.sl)] Try.f44.results.toList K) (argEnv [.int .u64 n]) w) h
  have h2 : chk Try.prog Try.f44.ntmps A_ref07_Num (Try.f44.body.getD .skip) = true := by kernel_rfl
  have h4 : Nat.ble (List.length (α := Value) [.int .u64 n]) Try.f44.ntmps = true := by kernel_rfl
  have h5 : Try.f44.body = some (Try.f44.body.getD .skip) := by kernel_rfl
  have h6 := @fn_sound Try.prog 44 Try.f44 (Try.f44.body.getD .skip) A_ref07_Num [.int .u64 n] [.one (.sl)] K w Try.func44 h5 h2 h4 h1
  exact cast (by kernel_rfl : callK Try.prog 44 (List.toArray (α := Value) [.int .u64 n]) [.one (.sl)] K w = C_ref07_Num n w K) h6

def F_ref11_Encode (l : Sl) (w : World) (K : Sl → World → Prop) : Prop :=
  Ar .u64 ((l.len : Int)) fun z =>
  C_ref07_Num z w fun r w1 =>
  ∃ I0 : Nat → Sl → Int → Int → World → Prop, (∃ m, I0 m r 0 0 w1) ∧ ∀ (_ : Env) (m0 : Nat) (b : Sl) (endv : Int) (i : Int) (w2 : World), I0 m0 b endv i w2 →
  If (decide (i < ((l.len : Int)))) (
  Ix l.a l.len i 2 fun a =>
  ∃ vv : Int, Cell w2 a (.int .u32 vv) ∧
  Ar .u32 (vv - endv) fun z_1 =>
  Ar .u64 z_1 fun z_2 =>
  C_ref07_Num z_2 w2 fun r_1 w3 =>
  AppW Try.prog 49 49 b (.slice r_1.a r_1.len r_1.cap) (fun s w4 =>
  ∃ S : World → Prop, S (drewW w4) ∧
  Ix l.a l.len i 2 fun a_1 =>
  ∃ vv_1 : Int, Held S (a_1.add 1) (.int .u32 vv_1) ∧
  Ix l.a l.len i 2 fun a_2 =>
  ∃ vv_2 : Int, Held S a_2 (.int .u32 vv_2) ∧
  Ar .u32 (vv_1 - vv_2) fun z_3 =>
  Ar .u64 z_3 fun z_4 =>
  C_ref07_Num z_4 (drewW w4) fun r_2 w5 =>
  S w5 ∧
  AppW Try.prog 49 49 s (.slice r_2.a r_2.len r_2.cap) (fun s_1 w6 =>
  S w6 ∧
  Ix l.a l.len i 2 fun a_3 =>
  ∃ vv_3 : Int, Cell w6 (a_3.add 1) (.int .u32 vv_3) ∧
  Ar .i64 (i + 1) fun z_5 =>
  ∃ m1, m1 < m0 ∧ I0 m1 s_1 vv_3 z_5 w6) w5) w3) (
  K b w2)
def A_ref11_Encode : Ann := (.seq .nil (.seq .nil (.seq .nil (.seq (.seq .nil (.block (.loop [(3, .sl), (4, .int .u32), (5, .int .i64)] 140737488354360 (.seq (.seq .nil (.cond .nil .nil)) (.seq (.block (.seq .nil (.seq (.draw (.take 0 (.take 1 (.take 2 (.take 3 (.take 4 (.take 5 (.take 6 (.take 7 (.take 8 (.take 9 (.take 10 (.take 11 (.take 12 (.one 13 (.one 14 (.take 15 .fin))))))))))))))))) .nil))) .nil))))) (.seq .nil .nil)))))
theorem S_ref11_Encode {l : Sl} {w : World} {K : Sl → World → Prop} (h : F_ref11_Encode l w K) : C_ref11_Encode l w K := by
  have h1 : wpc Try.prog A_ref11_Encode (Try.f34.body.getD .skip) (retK Try.prog [.one (.sl)] Try.f34.results.toList K) (argEnv [.slice l.a l.len l.cap]) w := cast (by kernel_rfl : F_ref11_Encode l w K = wpc Try.prog A_ref11_Encode (Try.f34.body.getD .skip) (retK Try.prog [.one (.sl)] Try.f34.results.toList K) (argEnv [.slice l.a l.len l.cap]) w) h
  have h2 : chk Try.prog Try.f34.ntmps A_ref11_Encode (Try.f34.body.getD .skip) = true := by kernel_rfl
  have h4 : Nat.ble (List.length (α := Value) [.slice l.a l.len l.cap]) Try.f34.ntmps = true := by kernel_rfl
  have h5 : Try.f34.body = some (Try.f34.body.getD .skip) := by kernel_rfl
  have h6 := @fn_sound Try.prog 34 Try.f34 (Try.f34.body.getD .skip) A_ref11_Encode [.slice l.a l.len l.cap] [.one (.sl)] K w Try.func34 h5 h2 h4 h1
  exact cast (by kernel_rfl : callK Try.prog 34 (List.toArray (α := Value) [.slice l.a l.len l.cap]) [.one (.sl)] K w = C_ref11_Encode l w K) h6

def F_law11_RunsEncodes (l : Sl) (w : World) (K : Bool → World → Prop) : Prop :=
  C_runs_Encode l w fun r0_1 r1 w1 =>
  C_ref11_Right l w1 fun r w2 =>
  If (!r) (
  If (((r0_1.len : Int)) == 0) (
  If (r1 == 2) (
  C_law11_known  w2 fun r_1 w3 =>
  K r_1 w3) (
  K false w2)) (
  K false w2)) (
  If (r1 == 0) (
  C_ref11_Encode l w2 fun r_2 w4 =>
  C_ref01_Same r0_1 r_2 w4 fun r_3 w5 =>
  If r_3 (
  C_law11_known  w5 fun r_4 w6 =>
  K r_4 w6) (
  K false w5)) (
  K false w2))
def A_law11_RunsEncodes : Ann := (.seq .nil (.seq .nil (.seq (.seq .nil (.cond (.seq .nil .nil) .nil)) (.seq .nil .nil))))
theorem S_law11_RunsEncodes {l : Sl} {w : World} {K : Bool → World → Prop} (h : F_law11_RunsEncodes l w K) : C_law11_RunsEncodes l w K := by
  have h1 : wpc Try.prog A_law11_RunsEncodes (Try.f9.body.getD .skip) (retK Try.prog [.one (.bool)] Try.f9.results.toList K) (argEnv [.slice l.a l.len l.cap]) w := cast (by kernel_rfl : F_law11_RunsEncodes l w K = wpc Try.prog A_law11_RunsEncodes (Try.f9.body.getD .skip) (retK Try.prog [.one (.bool)] Try.f9.results.toList K) (argEnv [.slice l.a l.len l.cap]) w) h
  have h2 : chk Try.prog Try.f9.ntmps A_law11_RunsEncodes (Try.f9.body.getD .skip) = true := by kernel_rfl
  have h4 : Nat.ble (List.length (α := Value) [.slice l.a l.len l.cap]) Try.f9.ntmps = true := by kernel_rfl
  have h5 : Try.f9.body = some (Try.f9.body.getD .skip) := by kernel_rfl
  have h6 := @fn_sound Try.prog 9 Try.f9 (Try.f9.body.getD .skip) A_law11_RunsEncodes [.slice l.a l.len l.cap] [.one (.bool)] K w Try.func9 h5 h2 h4 h1
  exact cast (by kernel_rfl : callK Try.prog 9 (List.toArray (α := Value) [.slice l.a l.len l.cap]) [.one (.bool)] K w = C_law11_RunsEncodes l w K) h6

def F_runs_Pages (l : Sl) (most : Int) (w : World) (K : Sl → Int → World → Prop) : Prop :=
  C_runs_Count l w fun r0_1 r1_1 w1 =>
  ∃ J1 : World → Prop, (
  ∃ J0 : Bool → World → Prop, (
  If (r1_1 != 0) (
  J0 true w1) (
  J0 (decide (most < 0)) w1)) ∧ ∀ (_ : Env) (t : Bool) (w2 : World), J0 t w2 →
  If t (
  K ⟨none, 0, 0⟩ 2 w2) (
  Ar .u64 most fun z =>
  If (decide (r0_1 > z)) (
  K ⟨none, 0, 0⟩ 3 w2) (
  J1 w2))) ∧ ∀ (_ : Env) (w3 : World), J1 w3 →
  MkW w3 24 [.int .u32 0] 4 0 r0_1 fun s w4 =>
  ∃ I1 : Nat → Sl → Int → World → Prop, (∃ m, I1 m s 0 w4) ∧ ∀ (_ : Env) (m0 : Nat) (out : Sl) (t_1 : Int) (w5 : World), I1 m0 out t_1 w5 →
  If (decide (t_1 < ((l.len : Int)))) (
  Ix l.a l.len t_1 2 fun a =>
  ∃ c : Int, Cell w5 a (.int .u32 c) ∧
  ∃ c_1 : Int, Cell w5 (a.add 1) (.int .u32 c_1) ∧
  NewW w5 (.cells [.int .u32 0, .int .u32 0].toArray 32) fun b w6 =>
  List.length (α := Value) [.int .u32 c, .int .u32 c_1] = 2 ∧ StN w6 (Addr.mk b 0 none) [.int .u32 c, .int .u32 c_1] fun w7 =>
  ∃ vv : Int, Cell w7 (Addr.mk b 0 none) (.int .u32 vv) ∧
  ∃ I0 : Nat → Sl → Int → World → Prop, (∃ m, I0 m out vv w7) ∧ ∀ (_ : Env) (m0_1 : Nat) (out_1 : Sl) (p : Int) (w8 : World), I0 m0_1 out_1 p w8 →
  ∃ vv_1 : Int, Cell w8 ((Addr.mk b 0 none).add 1) (.int .u32 vv_1) ∧
  If (decide (p < vv_1)) (
  NewW w8 (.cells [.int .u32 p].toArray 24) fun b_1 w9 =>
  AppW Try.prog 54 54 out_1 (.slice (some (Addr.mk b_1 0 none)) 1 1) (fun s_1 w10 =>
  Ar .u32 (p + 1) fun z_1 =>
  ∃ m1_1, m1_1 < m0_1 ∧ I0 m1_1 s_1 z_1 w10) w9) (
  Ar .i64 (t_1 + 1) fun z_2 =>
  ∃ m1, m1 < m0 ∧ I1 m1 out_1 z_2 w8)) (
  K out 0 w5)
def A_runs_Pages : Ann := (.seq .nil (.seq .nil (.join [] 536739888 (.block (.join [(17, .bool)] 16646144 .nil (.cond (.seq .nil .nil) (.seq .nil (.cond (.seq .nil .nil) .nil))))) (.seq .nil (.seq (.seq .nil (.block (.loop [(8, .sl), (33, .int .i64)] 1125891316911360 (.seq .nil (.seq (.cond .nil .nil) (.seq (.block (.seq .nil (.seq .nil (.block (.loop [(8, .sl), (11, .int .u32)] 562400197609728 (.seq (.seq .nil (.cond .nil .nil)) (.seq (.block .nil) .nil))))))) .nil)))))) (.seq .nil .nil))))))
theorem S_runs_Pages {l : Sl} {most : Int} {w : World} {K : Sl → Int → World → Prop} (h : F_runs_Pages l most w K) : C_runs_Pages l most w K := by
  have h1 : wpc Try.prog A_runs_Pages (Try.f35.body.getD .skip) (retK Try.prog [.one (.sl), .one (.int .i64)] Try.f35.results.toList K) (argEnv [.slice l.a l.len l.cap, .int .i64 most]) w := cast (by kernel_rfl : F_runs_Pages l most w K = wpc Try.prog A_runs_Pages (Try.f35.body.getD .skip) (retK Try.prog [.one (.sl), .one (.int .i64)] Try.f35.results.toList K) (argEnv [.slice l.a l.len l.cap, .int .i64 most]) w) h
  have h2 : chk Try.prog Try.f35.ntmps A_runs_Pages (Try.f35.body.getD .skip) = true := by kernel_rfl
  have h4 : Nat.ble (List.length (α := Value) [.slice l.a l.len l.cap, .int .i64 most]) Try.f35.ntmps = true := by kernel_rfl
  have h5 : Try.f35.body = some (Try.f35.body.getD .skip) := by kernel_rfl
  have h6 := @fn_sound Try.prog 35 Try.f35 (Try.f35.body.getD .skip) A_runs_Pages [.slice l.a l.len l.cap, .int .i64 most] [.one (.sl), .one (.int .i64)] K w Try.func35 h5 h2 h4 h1
  exact cast (by kernel_rfl : callK Try.prog 35 (List.toArray (α := Value) [.slice l.a l.len l.cap, .int .i64 most]) [.one (.sl), .one (.int .i64)] K w = C_runs_Pages l most w K) h6

def F_ref11_Pages (l : Sl) (w : World) (K : Sl → World → Prop) : Prop :=
  ∃ I1 : Nat → Sl → Int → World → Prop, (∃ m, I1 m ⟨none, 0, 0⟩ 0 w) ∧ ∀ (_ : Env) (m0 : Nat) (out : Sl) (i : Int) (w1 : World), I1 m0 out i w1 →
  If (decide (i < ((l.len : Int)))) (
  Ix l.a l.len i 2 fun a =>
  ∃ vv : Int, Cell w1 a (.int .u32 vv) ∧
  ∃ I0 : Nat → Sl → Int → World → Prop, (∃ m, I0 m out vv w1) ∧ ∀ (_ : Env) (m0_1 : Nat) (out_1 : Sl) (p : Int) (w2 : World), I0 m0_1 out_1 p w2 →
  Ix l.a l.len i 2 fun a_1 =>
  ∃ vv_1 : Int, Cell w2 (a_1.add 1) (.int .u32 vv_1) ∧
  If (decide (p < vv_1)) (
  NewW w2 (.cells [.int .u32 p].toArray 24) fun b w3 =>
  AppW Try.prog 54 54 out_1 (.slice (some (Addr.mk b 0 none)) 1 1) (fun s w4 =>
  Ar .u32 (p + 1) fun z =>
  ∃ m1_1, m1_1 < m0_1 ∧ I0 m1_1 s z w4) w3) (
  Ar .i64 (i + 1) fun z_1 =>
  ∃ m1, m1 < m0 ∧ I1 m1 out_1 z_1 w2)) (
  K out w1)
def A_ref11_Pages : Ann := (.seq .nil (.seq .nil (.seq (.seq .nil (.block (.loop [(3, .sl), (4, .int .i64)] 1073741816 (.seq (.seq .nil (.cond .nil .nil)) (.seq (.block (.seq .nil (.block (.loop [(3, .sl), (5, .int .u32)] 1073610792 (.seq (.seq .nil (.cond .nil .nil)) (.seq (.block .nil) .nil)))))) .nil))))) (.seq .nil .nil))))
theorem S_ref11_Pages {l : Sl} {w : World} {K : Sl → World → Prop} (h : F_ref11_Pages l w K) : C_ref11_Pages l w K := by
  have h1 : wpc Try.prog A_ref11_Pages (Try.f36.body.getD .skip) (retK Try.prog [.one (.sl)] Try.f36.results.toList K) (argEnv [.slice l.a l.len l.cap]) w := cast (by kernel_rfl : F_ref11_Pages l w K = wpc Try.prog A_ref11_Pages (Try.f36.body.getD .skip) (retK Try.prog [.one (.sl)] Try.f36.results.toList K) (argEnv [.slice l.a l.len l.cap]) w) h
  have h2 : chk Try.prog Try.f36.ntmps A_ref11_Pages (Try.f36.body.getD .skip) = true := by kernel_rfl
  have h4 : Nat.ble (List.length (α := Value) [.slice l.a l.len l.cap]) Try.f36.ntmps = true := by kernel_rfl
  have h5 : Try.f36.body = some (Try.f36.body.getD .skip) := by kernel_rfl
  have h6 := @fn_sound Try.prog 36 Try.f36 (Try.f36.body.getD .skip) A_ref11_Pages [.slice l.a l.len l.cap] [.one (.sl)] K w Try.func36 h5 h2 h4 h1
  exact cast (by kernel_rfl : callK Try.prog 36 (List.toArray (α := Value) [.slice l.a l.len l.cap]) [.one (.sl)] K w = C_ref11_Pages l w K) h6

def F_law11_RunsPages (l : Sl) (most : Int) (w : World) (K : Bool → World → Prop) : Prop :=
  C_ref11_Right l w fun r w1 =>
  ∃ J3 : World → Prop, (
  If r (
  If (decide (most > 4096)) (
  C_ref11_Count l w1 fun r_1 w2 =>
  If (decide (r_1 > 4096)) (
  C_law11_known  w2 fun r_2 w3 =>
  K r_2 w3) (
  J3 w2)) (
  J3 w1)) (
  J3 w1)) ∧ ∀ (_ : Env) (w4 : World), J3 w4 →
  C_runs_Pages l most w4 fun r0_1 r1 w5 =>
  ∃ J2 : World → Prop, (
  ∃ J1 : Bool → World → Prop, (
  If (!r) (
  J1 true w5) (
  J1 (decide (most < 0)) w5)) ∧ ∀ (_ : Env) (t : Bool) (w6 : World), J1 t w6 →
  If t (
  If (((r0_1.len : Int)) == 0) (
  If (r1 == 2) (
  C_law11_known  w6 fun r_3 w7 =>
  K r_3 w7) (
  K false w6)) (
  K false w6)) (
  C_ref11_Count l w6 fun r_4 w8 =>
  Ar .u64 most fun z =>
  If (decide (r_4 > z)) (
  If (((r0_1.len : Int)) == 0) (
  If (r1 == 3) (
  C_law11_known  w8 fun r_5 w9 =>
  K r_5 w9) (
  K false w8)) (
  K false w8)) (
  J2 w8))) ∧ ∀ (_ : Env) (w10 : World), J2 w10 →
  C_ref11_Pages l w10 fun r_6 w11 =>
  ∃ J0 : World → Prop, (
  If (r1 != 0) (
  K false w11) (
  If (((r0_1.len : Int)) != ((r_6.len : Int))) (
  K false w11) (
  J0 w11))) ∧ ∀ (_ : Env) (w12 : World), J0 w12 →
  ∃ I0 : Nat → Int → World → Prop, (∃ m, I0 m 0 w12) ∧ ∀ (_ : Env) (m0 : Nat) (t_1 : Int) (w13 : World), I0 m0 t_1 w13 →
  If (decide (t_1 < ((r0_1.len : Int)))) (
  ∃ S : World → Prop, S (drewW w13) ∧
  Ix r0_1.a r0_1.len t_1 1 fun a =>
  ∃ vv : Int, Held S a (.int .u32 vv) ∧
  Ix r_6.a r_6.len t_1 1 fun a_1 =>
  ∃ vv_1 : Int, Held S a_1 (.int .u32 vv_1) ∧
  If (vv != vv_1) (
  K false ((drewW w13))) (
  Ar .i64 (t_1 + 1) fun z_1 =>
  ∃ m1, m1 < m0 ∧ I0 m1 z_1 ((drewW w13)))) (
  C_law11_known  w13 fun r_7 w14 =>
  K r_7 w14)
def A_law11_RunsPages : Ann := (.seq .nil (.seq .nil (.join [] 8384528 (.seq .nil (.cond (.seq .nil .nil) .nil)) (.seq .nil (.join [] 4611686017890517008 (.block (.join [(29, .bool)] 68182605824 .nil (.cond (.seq .nil .nil) (.seq .nil (.cond (.seq .nil .nil) .nil))))) (.seq .nil (.join [] 9426286221665580875792 (.seq .nil (.cond (.seq .nil .nil) .nil)) (.seq (.seq .nil (.block (.loop [(75, .int .i64)] 309447230889482111563072016 (.seq .nil (.seq (.cond .nil .nil) (.seq (.block (.seq .nil (.seq (.draw (.take 0 (.take 1 (.take 2 (.take 3 (.take 4 (.take 5 (.take 6 (.take 7 (.take 8 .fin)))))))))) (.cond (.seq .nil .nil) .nil)))) .nil)))))) (.seq .nil .nil)))))))))
theorem S_law11_RunsPages {l : Sl} {most : Int} {w : World} {K : Bool → World → Prop} (h : F_law11_RunsPages l most w K) : C_law11_RunsPages l most w K := by
  have h1 : wpc Try.prog A_law11_RunsPages (Try.f10.body.getD .skip) (retK Try.prog [.one (.bool)] Try.f10.results.toList K) (argEnv [.slice l.a l.len l.cap, .int .i64 most]) w := cast (by kernel_rfl : F_law11_RunsPages l most w K = wpc Try.prog A_law11_RunsPages (Try.f10.body.getD .skip) (retK Try.prog [.one (.bool)] Try.f10.results.toList K) (argEnv [.slice l.a l.len l.cap, .int .i64 most]) w) h
  have h2 : chk Try.prog Try.f10.ntmps A_law11_RunsPages (Try.f10.body.getD .skip) = true := by kernel_rfl
  have h4 : Nat.ble (List.length (α := Value) [.slice l.a l.len l.cap, .int .i64 most]) Try.f10.ntmps = true := by kernel_rfl
  have h5 : Try.f10.body = some (Try.f10.body.getD .skip) := by kernel_rfl
  have h6 := @fn_sound Try.prog 10 Try.f10 (Try.f10.body.getD .skip) A_law11_RunsPages [.slice l.a l.len l.cap, .int .i64 most] [.one (.bool)] K w Try.func10 h5 h2 h4 h1
  exact cast (by kernel_rfl : callK Try.prog 10 (List.toArray (α := Value) [.slice l.a l.len l.cap, .int .i64 most]) [.one (.bool)] K w = C_law11_RunsPages l most w K) h6

def F_pack_NewReader (b : Sl) (w : World) (K : Option Addr → World → Prop) : Prop :=
  NewW w (.cells [].toArray 5) fun b_1 w1 =>
  AppW Try.prog 49 49 ⟨some (Addr.mk b_1 0 none), 0, 0⟩ (.slice b.a b.len b.cap) (fun s w2 =>
  NewW w2 (.cells [.slice s.a s.len s.cap, .int .i64 0, .int .i64 0].toArray 79) fun b_2 w3 =>
  K (some (Addr.mk b_2 0 none)) w3) w1
def A_pack_NewReader : Ann := (.seq .nil (.seq .nil .nil))
theorem S_pack_NewReader {b : Sl} {w : World} {K : Option Addr → World → Prop} (h : F_pack_NewReader b w K) : C_pack_NewReader b w K := by
  have h1 : wpc Try.prog A_pack_NewReader (Try.f45.body.getD .skip) (retK Try.prog [.one (.ptr)] Try.f45.results.toList K) (argEnv [.slice b.a b.len b.cap]) w := cast (by kernel_rfl : F_pack_NewReader b w K = wpc Try.prog A_pack_NewReader (Try.f45.body.getD .skip) (retK Try.prog [.one (.ptr)] Try.f45.results.toList K) (argEnv [.slice b.a b.len b.cap]) w) h
  have h2 : chk Try.prog Try.f45.ntmps A_pack_NewReader (Try.f45.body.getD .skip) = true := by kernel_rfl
  have h4 : Nat.ble (List.length (α := Value) [.slice b.a b.len b.cap]) Try.f45.ntmps = true := by kernel_rfl
  have h5 : Try.f45.body = some (Try.f45.body.getD .skip) := by kernel_rfl
  have h6 := @fn_sound Try.prog 45 Try.f45 (Try.f45.body.getD .skip) A_pack_NewReader [.slice b.a b.len b.cap] [.one (.ptr)] K w Try.func45 h5 h2 h4 h1
  exact cast (by kernel_rfl : callK Try.prog 45 (List.toArray (α := Value) [.slice b.a b.len b.cap]) [.one (.ptr)] K w = C_pack_NewReader b w K) h6

def F_pack_Reader_Left (r : Option Addr) (w : World) (K : Int → World → Prop) : Prop :=
  If (Option.isNone r) (
  K 0 w) (
  ∃ S : World → Prop, S (drewW w) ∧
  Nn r fun a =>
  ∃ vv : Sl, Held S a (.slice vv.a vv.len vv.cap) ∧
  Nn r fun a_1 =>
  ∃ vv_1 : Int, Held S (a_1.add 1) (.int .i64 vv_1) ∧
  Ar .i64 (((vv.len : Int)) - vv_1) fun z =>
  K z ((drewW w)))
def A_pack_Reader_Left : Ann := (.seq .nil (.seq (.seq .nil (.cond (.seq .nil .nil) .nil)) (.seq (.draw (.take 0 (.take 1 (.take 2 (.take 3 (.take 4 (.take 5 (.take 6 (.take 7 (.take 8 (.take 9 (.take 10 .fin)))))))))))) .nil)))
theorem S_pack_Reader_Left {r : Option Addr} {w : World} {K : Int → World → Prop} (h : F_pack_Reader_Left r w K) : C_pack_Reader_Left r w K := by
  have h1 : wpc Try.prog A_pack_Reader_Left (Try.f47.body.getD .skip) (retK Try.prog [.one (.int .i64)] Try.f47.results.toList K) (argEnv [.pointer r]) w := cast (by kernel_rfl : F_pack_Reader_Left r w K = wpc Try.prog A_pack_Reader_Left (Try.f47.body.getD .skip) (retK Try.prog [.one (.int .i64)] Try.f47.results.toList K) (argEnv [.pointer r]) w) h
  have h2 : chk Try.prog Try.f47.ntmps A_pack_Reader_Left (Try.f47.body.getD .skip) = true := by kernel_rfl
  have h4 : Nat.ble (List.length (α := Value) [.pointer r]) Try.f47.ntmps = true := by kernel_rfl
  have h5 : Try.f47.body = some (Try.f47.body.getD .skip) := by kernel_rfl
  have h6 := @fn_sound Try.prog 47 Try.f47 (Try.f47.body.getD .skip) A_pack_Reader_Left [.pointer r] [.one (.int .i64)] K w Try.func47 h5 h2 h4 h1
  exact cast (by kernel_rfl : callK Try.prog 47 (List.toArray (α := Value) [.pointer r]) [.one (.int .i64)] K w = C_pack_Reader_Left r w K) h6

def F_pack_Reader_ok (r : Option Addr) (w : World) (K : Bool → World → Prop) : Prop :=
  If (!(Option.isNone r)) (
  Nn r fun a =>
  ∃ vv : Int, Cell w (a.add 2) (.int .i64 vv) ∧
  K (vv == 0) w) (
  K false w)
def A_pack_Reader_ok : Ann := (.seq .nil (.seq .nil .nil))
theorem S_pack_Reader_ok {r : Option Addr} {w : World} {K : Bool → World → Prop} (h : F_pack_Reader_ok r w K) : C_pack_Reader_ok r w K := by
  have h1 : wpc Try.prog A_pack_Reader_ok (Try.f51.body.getD .skip) (retK Try.prog [.one (.bool)] Try.f51.results.toList K) (argEnv [.pointer r]) w := cast (by kernel_rfl : F_pack_Reader_ok r w K = wpc Try.prog A_pack_Reader_ok (Try.f51.body.getD .skip) (retK Try.prog [.one (.bool)] Try.f51.results.toList K) (argEnv [.pointer r]) w) h
  have h2 : chk Try.prog Try.f51.ntmps A_pack_Reader_ok (Try.f51.body.getD .skip) = true := by kernel_rfl
  have h4 : Nat.ble (List.length (α := Value) [.pointer r]) Try.f51.ntmps = true := by kernel_rfl
  have h5 : Try.f51.body = some (Try.f51.body.getD .skip) := by kernel_rfl
  have h6 := @fn_sound Try.prog 51 Try.f51 (Try.f51.body.getD .skip) A_pack_Reader_ok [.pointer r] [.one (.bool)] K w Try.func51 h5 h2 h4 h1
  exact cast (by kernel_rfl : callK Try.prog 51 (List.toArray (α := Value) [.pointer r]) [.one (.bool)] K w = C_pack_Reader_ok r w K) h6

def F_pack_Reader_number (r : Option Addr) (atv : Int) (w : World) (K : Int → Int → Int → World → Prop) : Prop :=
  ∃ I0 : Nat → Int → Int → World → Prop, (∃ m, I0 m 0 0 w) ∧ ∀ (_ : Env) (m0 : Nat) (n : Int) (i : Int) (w1 : World), I0 m0 n i w1 →
  Ar .i64 (atv + i) fun z =>
  Nn r fun a =>
  ∃ vv : Sl, Cell w1 a (.slice vv.a vv.len vv.cap) ∧
  If (decide (z ≥ ((vv.len : Int)))) (
  K 0 0 4 w1) (
  Nn r fun a_1 =>
  ∃ vv_1 : Sl, Cell w1 a_1 (.slice vv_1.a vv_1.len vv_1.cap) ∧
  Ar .i64 (atv + i) fun z_1 =>
  Ix vv_1.a vv_1.len z_1 1 fun a_2 =>
  ∃ vv_2 : Int, Cell w1 a_2 (.int .u8 vv_2) ∧
  ∃ J1 : World → Prop, (
  If (i == 9) (
  If (decide (vv_2 > 1)) (
  K 0 0 6 w1) (
  J1 w1)) (
  J1 w1)) ∧ ∀ (_ : Env) (w2 : World), J1 w2 →
  Nm (bitI .and .u8 vv_2 127) fun z_2 =>
  Ar .u64 z_2 fun z_3 =>
  Ar .i64 (7 * i) fun z_4 =>
  (0 : Int) ≤ z_4 ∧ Ar .u64 (z_3 * 2 ^ min (Int.toNat z_4) (IntKind.bits .u64)) fun z_5 =>
  Nm (bitI .or .u64 n z_5) fun z_6 =>
  If (decide (vv_2 > 127)) (
  Ar .i64 (i + 1) fun z_7 =>
  ∃ m1, m1 < m0 ∧ I0 m1 z_6 z_7 w2) (
  ∃ J0 : World → Prop, (
  If (vv_2 == 0) (
  If (decide (i > 0)) (
  K 0 0 5 w2) (
  J0 w2)) (
  J0 w2)) ∧ ∀ (_ : Env) (w3 : World), J0 w3 →
  Ar .i64 (atv + i) fun z_8 =>
  Ar .i64 (z_8 + 1) fun z_9 =>
  K z_6 z_9 0 w3))
def A_pack_Reader_number : Ann := (.seq .nil (.seq .nil (.seq .nil (.block (.loop [(7, .int .u64), (8, .int .i64)] 144115188075855856 (.seq (.block (.seq (.seq .nil (.cond (.seq .nil .nil) .nil)) (.seq .nil (.join [] 67645735024 (.seq .nil (.cond (.seq .nil .nil) .nil)) (.seq .nil (.seq (.seq .nil (.cond .nil .nil)) (.join [] 4433230883192944 (.seq .nil (.cond (.seq .nil .nil) .nil)) (.seq .nil .nil)))))))) .nil))))))
theorem S_pack_Reader_number {r : Option Addr} {atv : Int} {w : World} {K : Int → Int → Int → World → Prop} (h : F_pack_Reader_number r atv w K) : C_pack_Reader_number r atv w K := by
  have h1 : wpc Try.prog A_pack_Reader_number (Try.f52.body.getD .skip) (retK Try.prog [.one (.int .u64), .one (.int .i64), .one (.int .i64)] Try.f52.results.toList K) (argEnv [.pointer r, .int .i64 atv]) w := cast (by kernel_rfl : F_pack_Reader_number r atv w K = wpc Try.prog A_pack_Reader_number (Try.f52.body.getD .skip) (retK Try.prog [.one (.int .u64), .one (.int .i64), .one (.int .i64)] Try.f52.results.toList K) (argEnv [.pointer r, .int .i64 atv]) w) h
  have h2 : chk Try.prog Try.f52.ntmps A_pack_Reader_number (Try.f52.body.getD .skip) = true := by kernel_rfl
  have h4 : Nat.ble (List.length (α := Value) [.pointer r, .int .i64 atv]) Try.f52.ntmps = true := by kernel_rfl
  have h5 : Try.f52.body = some (Try.f52.body.getD .skip) := by kernel_rfl
  have h6 := @fn_sound Try.prog 52 Try.f52 (Try.f52.body.getD .skip) A_pack_Reader_number [.pointer r, .int .i64 atv] [.one (.int .u64), .one (.int .i64), .one (.int .i64)] K w Try.func52 h5 h2 h4 h1
  exact cast (by kernel_rfl : callK Try.prog 52 (List.toArray (α := Value) [.pointer r, .int .i64 atv]) [.one (.int .u64), .one (.int .i64), .one (.int .i64)] K w = C_pack_Reader_number r atv w K) h6

def F_pack_Reader_Num (r : Option Addr) (w : World) (K : Int → World → Prop) : Prop :=
  C_pack_Reader_ok r w fun r_1 w1 =>
  If (!r_1) (
  K 0 w1) (
  Nn r fun a =>
  ∃ vv : Int, Cell w1 (a.add 1) (.int .i64 vv) ∧
  C_pack_Reader_number r vv w1 fun r0_1 r1 r2 w2 =>
  If (r2 != 0) (
  Nn r fun a_1 =>
  St1 w2 (a_1.add 2) (.int .i64 r2) fun w3 =>
  K 0 w3) (
  Nn r fun a_2 =>
  St1 w2 (a_2.add 1) (.int .i64 r1) fun w4 =>
  K r0_1 w4))
def A_pack_Reader_Num : Ann := (.seq .nil (.seq (.seq .nil (.cond (.seq .nil .nil) .nil)) (.seq .nil (.seq (.seq .nil (.cond (.seq .nil (.seq .nil .nil)) .nil)) (.seq .nil (.seq .nil .nil))))))
theorem S_pack_Reader_Num {r : Option Addr} {w : World} {K : Int → World → Prop} (h : F_pack_Reader_Num r w K) : C_pack_Reader_Num r w K := by
  have h1 : wpc Try.prog A_pack_Reader_Num (Try.f48.body.getD .skip) (retK Try.prog [.one (.int .u64)] Try.f48.results.toList K) (argEnv [.pointer r]) w := cast (by kernel_rfl : F_pack_Reader_Num r w K = wpc Try.prog A_pack_Reader_Num (Try.f48.body.getD .skip) (retK Try.prog [.one (.int .u64)] Try.f48.results.toList K) (argEnv [.pointer r]) w) h
  have h2 : chk Try.prog Try.f48.ntmps A_pack_Reader_Num (Try.f48.body.getD .skip) = true := by kernel_rfl
  have h4 : Nat.ble (List.length (α := Value) [.pointer r]) Try.f48.ntmps = true := by kernel_rfl
  have h5 : Try.f48.body = some (Try.f48.body.getD .skip) := by kernel_rfl
  have h6 := @fn_sound Try.prog 48 Try.f48 (Try.f48.body.getD .skip) A_pack_Reader_Num [.pointer r] [.one (.int .u64)] K w Try.func48 h5 h2 h4 h1
  exact cast (by kernel_rfl : callK Try.prog 48 (List.toArray (α := Value) [.pointer r]) [.one (.int .u64)] K w = C_pack_Reader_Num r w K) h6

def F_runs_Decode_1 (least : Int) (endv : Int) (c0 : Addr) (c1 : Addr) (c2 : Addr) (c3 : Addr) (w : World) (K : Int → Bool → World → Prop) : Prop :=
  ∃ S : World → Prop, S (drewW w) ∧
  ∃ vv : Sl, Held S c0 (.slice vv.a vv.len vv.cap) ∧
  ∃ vv_1 : Option Addr, Held S c1 (.pointer vv_1) ∧
  C_pack_Reader_Left vv_1 (drewW w) fun r w1 =>
  S w1 ∧
  Ar .i64 (((vv.len : Int)) - r) fun z =>
  St1 w1 c2 (.int .i64 z) fun w2 =>
  S w2 ∧
  ∃ vv_2 : Option Addr, Cell w2 c1 (.pointer vv_2) ∧
  C_pack_Reader_Num vv_2 w2 fun r_1 w3 =>
  ∃ S : World → Prop, S (drewW w3) ∧
  ∃ vv_3 : Option Addr, Held S c1 (.pointer vv_3) ∧
  ∃ vv_4 : Sl, Held S c0 (.slice vv_4.a vv_4.len vv_4.cap) ∧
  ∃ vv_5 : Int, Held S c2 (.int .i64 vv_5) ∧
  Ar .i64 (((vv_4.len : Int)) - vv_5) fun z_1 =>
  C_pack_Reader_Left vv_3 (drewW w3) fun r_2 w4 =>
  S w4 ∧
  If (r_2 == z_1) (
  K 0 false w4) (
  If (decide (r_1 < least)) (
  St1 w4 c3 (.int .i64 5) fun w5 =>
  K 0 false w5) (
  Ar .u64 (4294967295 - endv) fun z_2 =>
  If (decide (r_1 > z_2)) (
  St1 w4 c3 (.int .i64 5) fun w6 =>
  K 0 false w6) (
  K r_1 true w4)))
def A_runs_Decode_1 : Ann := (.seq .nil (.seq (.draw (.take 0 (.take 1 (.take 2 (.one 3 (.take 4 (.one 5 .fin))))))) (.seq .nil (.seq (.seq (.draw (.take 0 (.take 2 (.take 3 (.take 4 (.take 5 (.one 1 (.take 6 .fin)))))))) (.cond (.seq .nil .nil) .nil)) (.seq (.seq .nil (.cond (.seq .nil (.seq .nil .nil)) .nil)) (.seq .nil .nil))))))
theorem S_runs_Decode_1 {least : Int} {endv : Int} {c0 : Addr} {c1 : Addr} {c2 : Addr} {c3 : Addr} {w : World} {K : Int → Bool → World → Prop} (h : F_runs_Decode_1 least endv c0 c1 c2 c3 w K) : C_runs_Decode_1 least endv c0 c1 c2 c3 w K := by
  have h1 : wpc Try.prog A_runs_Decode_1 (Try.f46.body.getD .skip) (retK Try.prog [.one (.int .u64), .one (.bool)] Try.f46.results.toList K) (argEnv [.int .u64 least, .int .u64 endv, .pointer (some c0), .pointer (some c1), .pointer (some c2), .pointer (some c3)]) w := cast (by kernel_rfl : F_runs_Decode_1 least endv c0 c1 c2 c3 w K = wpc Try.prog A_runs_Decode_1 (Try.f46.body.getD .skip) (retK Try.prog [.one (.int .u64), .one (.bool)] Try.f46.results.toList K) (argEnv [.int .u64 least, .int .u64 endv, .pointer (some c0), .pointer (some c1), .pointer (some c2), .pointer (some c3)]) w) h
  have h2 : chk Try.prog Try.f46.ntmps A_runs_Decode_1 (Try.f46.body.getD .skip) = true := by kernel_rfl
  have h4 : Nat.ble (List.length (α := Value) [.int .u64 least, .int .u64 endv, .pointer (some c0), .pointer (some c1), .pointer (some c2), .pointer (some c3)]) Try.f46.ntmps = true := by kernel_rfl
  have h5 : Try.f46.body = some (Try.f46.body.getD .skip) := by kernel_rfl
  have h6 := @fn_sound Try.prog 46 Try.f46 (Try.f46.body.getD .skip) A_runs_Decode_1 [.int .u64 least, .int .u64 endv, .pointer (some c0), .pointer (some c1), .pointer (some c2), .pointer (some c3)] [.one (.int .u64), .one (.bool)] K w Try.func46 h5 h2 h4 h1
  exact cast (by kernel_rfl : callK Try.prog 46 (List.toArray (α := Value) [.int .u64 least, .int .u64 endv, .pointer (some c0), .pointer (some c1), .pointer (some c2), .pointer (some c3)]) [.one (.int .u64), .one (.bool)] K w = C_runs_Decode_1 least endv c0 c1 c2 c3 w K) h6

def F_pack_Reader_Done (r : Option Addr) (w : World) (K : Int → Int → World → Prop) : Prop :=
  If (Option.isNone r) (
  K 1 0 w) (
  ∃ J1 : World → Prop, (
  ∃ J0 : Bool → World → Prop, (
  ∃ S : World → Prop, S (drewW w) ∧
  Nn r fun a =>
  ∃ vv : Int, Held S (a.add 2) (.int .i64 vv) ∧
  If (vv == 0) (
  Nn r fun a_1 =>
  ∃ vv_1 : Int, Held S (a_1.add 1) (.int .i64 vv_1) ∧
  Nn r fun a_2 =>
  ∃ vv_2 : Sl, Held S a_2 (.slice vv_2.a vv_2.len vv_2.cap) ∧
  J0 (decide (vv_1 < ((vv_2.len : Int)))) ((drewW w))) (
  J0 false ((drewW w)))) ∧ ∀ (_ : Env) (t : Bool) (w1 : World), J0 t w1 →
  If t (
  ∃ S : World → Prop, S (drewW w1) ∧
  Nn r fun a_3 =>
  ∃ vv_3 : Int, Held S (a_3.add 1) (.int .i64 vv_3) ∧
  K 5 vv_3 ((drewW w1))) (
  J1 w1)) ∧ ∀ (_ : Env) (w2 : World), J1 w2 →
  ∃ S : World → Prop, S (drewW w2) ∧
  Nn r fun a_4 =>
  ∃ vv_4 : Int, Held S (a_4.add 2) (.int .i64 vv_4) ∧
  Nn r fun a_5 =>
  ∃ vv_5 : Int, Held S (a_5.add 1) (.int .i64 vv_5) ∧
  K vv_4 vv_5 ((drewW w2)))
def A_pack_Reader_Done : Ann := (.seq .nil (.seq (.seq .nil (.cond (.seq .nil .nil) .nil)) (.join [] 134217676 (.join [(22, .bool)] 8388544 (.draw (.take 0 (.take 1 (.take 2 (.take 3 (.take 4 (.take 5 (.take 6 (.take 7 (.take 8 (.take 9 (.take 10 (.take 11 (.take 12 (.take 13 (.take 14 (.take 15 (.take 16 .fin)))))))))))))))))) (.cond (.seq (.draw (.take 0 (.take 1 (.take 2 (.take 3 (.take 4 (.take 5 .fin))))))) .nil) .nil)) (.seq (.draw (.take 0 (.take 1 (.take 2 (.take 3 (.take 4 (.take 5 (.take 6 (.take 7 (.take 8 (.take 9 .fin))))))))))) .nil))))
theorem S_pack_Reader_Done {r : Option Addr} {w : World} {K : Int → Int → World → Prop} (h : F_pack_Reader_Done r w K) : C_pack_Reader_Done r w K := by
  have h1 : wpc Try.prog A_pack_Reader_Done (Try.f49.body.getD .skip) (retK Try.prog [.one (.int .i64), .one (.int .i64)] Try.f49.results.toList K) (argEnv [.pointer r]) w := cast (by kernel_rfl : F_pack_Reader_Done r w K = wpc Try.prog A_pack_Reader_Done (Try.f49.body.getD .skip) (retK Try.prog [.one (.int .i64), .one (.int .i64)] Try.f49.results.toList K) (argEnv [.pointer r]) w) h
  have h2 : chk Try.prog Try.f49.ntmps A_pack_Reader_Done (Try.f49.body.getD .skip) = true := by kernel_rfl
  have h4 : Nat.ble (List.length (α := Value) [.pointer r]) Try.f49.ntmps = true := by kernel_rfl
  have h5 : Try.f49.body = some (Try.f49.body.getD .skip) := by kernel_rfl
  have h6 := @fn_sound Try.prog 49 Try.f49 (Try.f49.body.getD .skip) A_pack_Reader_Done [.pointer r] [.one (.int .i64), .one (.int .i64)] K w Try.func49 h5 h2 h4 h1
  exact cast (by kernel_rfl : callK Try.prog 49 (List.toArray (α := Value) [.pointer r]) [.one (.int .i64), .one (.int .i64)] K w = C_pack_Reader_Done r w K) h6

def F_runs_Decode (b : Sl) (w : World) (K : Sl → Int → Int → World → Prop) : Prop :=
  NewW w (.cells [.slice b.a b.len b.cap].toArray 49) fun b_1 w1 =>
  NewW w1 (.cells [.int .i64 0].toArray 25) fun b_2 w2 =>
  NewW w2 (.cells [.int .i64 0].toArray 3) fun b_3 w3 =>
  ∃ vv : Sl, Cell w3 (Addr.mk b_1 0 none) (.slice vv.a vv.len vv.cap) ∧
  C_pack_NewReader vv w3 fun r w4 =>
  NewW w4 (.cells [.pointer none].toArray 67) fun b_4 w5 =>
  St1 w5 (Addr.mk b_4 0 none) (.pointer r) fun w6 =>
  ∃ vv_1 : Option Addr, Cell w6 (Addr.mk b_4 0 none) (.pointer vv_1) ∧
  C_pack_Reader_Num vv_1 w6 fun r_1 w7 =>
  ∃ J0 : Sl → World → Prop, (
  ∃ I0 : Nat → Sl → Int → Int → World → Prop, (∃ m, I0 m ⟨none, 0, 0⟩ 0 0 w7) ∧ ∀ (_ : Env) (m0 : Nat) (l : Sl) (endv : Int) (i : Int) (w8 : World), I0 m0 l endv i w8 →
  If (decide (i < r_1)) (
  Nm (iMin i 1) fun z =>
  C_runs_Decode_1 z endv (Addr.mk b_1 0 none) (Addr.mk b_4 0 none) (Addr.mk b_3 0 none) (Addr.mk b_2 0 none) w8 fun r0_1 r1_1 w9 =>
  If (!r1_1) (
  J0 l w9) (
  Ar .u64 (endv + r0_1) fun z_1 =>
  C_runs_Decode_1 1 z_1 (Addr.mk b_1 0 none) (Addr.mk b_4 0 none) (Addr.mk b_3 0 none) (Addr.mk b_2 0 none) w9 fun r0_2 r1_2 w10 =>
  If (!r1_2) (
  J0 l w10) (
  Ar .u64 (endv + r0_1) fun z_2 =>
  Ar .u32 z_2 fun z_3 =>
  Ar .u64 (endv + r0_1) fun z_4 =>
  Ar .u64 (z_4 + r0_2) fun z_5 =>
  Ar .u32 z_5 fun z_6 =>
  NewW w10 (.cells [.int .u32 z_3, .int .u32 z_6].toArray 32) fun b_5 w11 =>
  AppW Try.prog 22 22 l (.slice (some (Addr.mk b_5 0 none)) 1 1) (fun s w12 =>
  Ar .u64 (r0_1 + r0_2) fun z_7 =>
  Ar .u64 (endv + z_7) fun z_8 =>
  Ar .u64 (i + 1) fun z_9 =>
  ∃ m1, m1 < m0 ∧ I0 m1 s z_8 z_9 w12) w11))) (
  J0 l w8)) ∧ ∀ (_ : Env) (l_1 : Sl) (w13 : World), J0 l_1 w13 →
  ∃ vv_2 : Int, Cell w13 (Addr.mk b_2 0 none) (.int .i64 vv_2) ∧
  If (vv_2 != 0) (
  ∃ S : World → Prop, S (drewW w13) ∧
  ∃ vv_3 : Int, Held S (Addr.mk b_2 0 none) (.int .i64 vv_3) ∧
  ∃ vv_4 : Int, Held S (Addr.mk b_3 0 none) (.int .i64 vv_4) ∧
  St1 (drewW w13) (Addr.mk b_2 0 none) (.int .i64 vv_3) fun w14 =>
  S w14 ∧
  St1 w14 (Addr.mk b_3 0 none) (.int .i64 vv_4) fun w15 =>
  S w15 ∧
  ∃ vv_5 : Int, Cell w15 (Addr.mk b_2 0 none) (.int .i64 vv_5) ∧
  ∃ vv_6 : Int, Cell w15 (Addr.mk b_3 0 none) (.int .i64 vv_6) ∧
  K ⟨none, 0, 0⟩ vv_5 vv_6 w15) (
  ∃ vv_7 : Option Addr, Cell w13 (Addr.mk b_4 0 none) (.pointer vv_7) ∧
  C_pack_Reader_Done vv_7 w13 fun r0_3 r1_3 w16 =>
  If (r0_3 != 0) (
  St1 w16 (Addr.mk b_2 0 none) (.int .i64 r0_3) fun w17 =>
  St1 w17 (Addr.mk b_3 0 none) (.int .i64 r1_3) fun w18 =>
  ∃ vv_8 : Int, Cell w18 (Addr.mk b_2 0 none) (.int .i64 vv_8) ∧
  ∃ vv_9 : Int, Cell w18 (Addr.mk b_3 0 none) (.int .i64 vv_9) ∧
  K ⟨none, 0, 0⟩ vv_8 vv_9 w18) (
  St1 w16 (Addr.mk b_2 0 none) (.int .i64 0) fun w19 =>
  St1 w19 (Addr.mk b_3 0 none) (.int .i64 0) fun w20 =>
  ∃ vv_10 : Int, Cell w20 (Addr.mk b_2 0 none) (.int .i64 vv_10) ∧
  ∃ vv_11 : Int, Cell w20 (Addr.mk b_3 0 none) (.int .i64 vv_11) ∧
  K l_1 vv_10 vv_11 w20))
def A_runs_Decode : Ann := (.seq .nil (.seq .nil (.seq .nil (.seq .nil (.seq .nil (.join [(2, .sl)] 18446744073708510980 (.seq .nil (.block (.loop [(2, .sl), (8, .int .u64), (9, .int .u64)] 18446744073708510980 (.seq (.seq .nil (.cond .nil .nil)) (.seq (.block (.seq .nil (.seq (.seq .nil (.cond .nil .nil)) (.seq .nil (.seq (.seq .nil (.cond .nil .nil)) (.seq .nil .nil)))))) .nil))))) (.seq (.seq .nil (.cond (.seq (.draw (.take 0 (.take 1 (.take 2 (.one 3 (.one 4 .fin)))))) .nil) .nil)) (.seq (.seq .nil (.seq .nil (.cond (.seq .nil .nil) .nil))) (.seq .nil .nil)))))))))
theorem S_runs_Decode {b : Sl} {w : World} {K : Sl → Int → Int → World → Prop} (h : F_runs_Decode b w K) : C_runs_Decode b w K := by
  have h1 : wpc Try.prog A_runs_Decode (Try.f37.body.getD .skip) (retK Try.prog [.one (.sl), .one (.int .i64), .one (.int .i64)] Try.f37.results.toList K) (argEnv [.slice b.a b.len b.cap]) w := cast (by kernel_rfl : F_runs_Decode b w K = wpc Try.prog A_runs_Decode (Try.f37.body.getD .skip) (retK Try.prog [.one (.sl), .one (.int .i64), .one (.int .i64)] Try.f37.results.toList K) (argEnv [.slice b.a b.len b.cap]) w) h
  have h2 : chk Try.prog Try.f37.ntmps A_runs_Decode (Try.f37.body.getD .skip) = true := by kernel_rfl
  have h4 : Nat.ble (List.length (α := Value) [.slice b.a b.len b.cap]) Try.f37.ntmps = true := by kernel_rfl
  have h5 : Try.f37.body = some (Try.f37.body.getD .skip) := by kernel_rfl
  have h6 := @fn_sound Try.prog 37 Try.f37 (Try.f37.body.getD .skip) A_runs_Decode [.slice b.a b.len b.cap] [.one (.sl), .one (.int .i64), .one (.int .i64)] K w Try.func37 h5 h2 h4 h1
  exact cast (by kernel_rfl : callK Try.prog 37 (List.toArray (α := Value) [.slice b.a b.len b.cap]) [.one (.sl), .one (.int .i64), .one (.int .i64)] K w = C_runs_Decode b w K) h6

def F_ref01_Copy (b : Sl) (w : World) (K : Sl → World → Prop) : Prop :=
  Ar .i64 (((b.len : Int)) + 3) fun z =>
  MkW w 5 [.int .u8 0] 1 ((b.len : Int)) z fun s w1 =>
  CopyW Try.prog 49 49 s (.slice b.a b.len b.cap) (fun _z_1 w2 =>
  K s w2) w1
def A_ref01_Copy : Ann := (.seq .nil (.seq .nil (.seq .nil (.seq .nil .nil))))
theorem S_ref01_Copy {b : Sl} {w : World} {K : Sl → World → Prop} (h : F_ref01_Copy b w K) : C_ref01_Copy b w K := by
  have h1 : wpc Try.prog A_ref01_Copy (Try.f38.body.getD .skip) (retK Try.prog [.one (.sl)] Try.f38.results.toList K) (argEnv [.slice b.a b.len b.cap]) w := cast (by kernel_rfl : F_ref01_Copy b w K = wpc Try.prog A_ref01_Copy (Try.f38.body.getD .skip) (retK Try.prog [.one (.sl)] Try.f38.results.toList K) (argEnv [.slice b.a b.len b.cap]) w) h
  have h2 : chk Try.prog Try.f38.ntmps A_ref01_Copy (Try.f38.body.getD .skip) = true := by kernel_rfl
  have h4 : Nat.ble (List.length (α := Value) [.slice b.a b.len b.cap]) Try.f38.ntmps = true := by kernel_rfl
  have h5 : Try.f38.body = some (Try.f38.body.getD .skip) := by kernel_rfl
  have h6 := @fn_sound Try.prog 38 Try.f38 (Try.f38.body.getD .skip) A_ref01_Copy [.slice b.a b.len b.cap] [.one (.sl)] K w Try.func38 h5 h2 h4 h1
  exact cast (by kernel_rfl : callK Try.prog 38 (List.toArray (α := Value) [.slice b.a b.len b.cap]) [.one (.sl)] K w = C_ref01_Copy b w K) h6

def F_ref07_Taken (b : Sl) (w : World) (K : Int → Int → Int → World → Prop) : Prop :=
  ∃ I0 : Nat → Int → Int → Int → World → Prop, (∃ m, I0 m 0 1 0 w) ∧ ∀ (_ : Env) (m0 : Nat) (n : Int) (byv : Int) (i : Int) (w1 : World), I0 m0 n byv i w1 →
  If (decide (i < ((b.len : Int)))) (
  ∃ J0 : World → Prop, (
  If (i == 9) (
  Ix b.a b.len i 1 fun a =>
  ∃ vv : Int, Cell w1 a (.int .u8 vv) ∧
  If (decide (vv > 1)) (
  K 0 0 6 w1) (
  J0 w1)) (
  J0 w1)) ∧ ∀ (_ : Env) (w2 : World), J0 w2 →
  Ix b.a b.len i 1 fun a_1 =>
  ∃ vv_1 : Int, Cell w2 a_1 (.int .u8 vv_1) ∧
  (128 : Int) ≠ 0 ∧ Nm (Int.tmod vv_1 128) fun z =>
  Ar .u64 z fun z_1 =>
  Ar .u64 (z_1 * byv) fun z_2 =>
  Ar .u64 (n + z_2) fun z_3 =>
  Ar .u64 (byv * 128) fun z_4 =>
  Ix b.a b.len i 1 fun a_2 =>
  ∃ vv_2 : Int, Cell w2 a_2 (.int .u8 vv_2) ∧
  If (decide (vv_2 ≥ 128)) (
  Ar .i64 (i + 1) fun z_5 =>
  ∃ m1, m1 < m0 ∧ I0 m1 z_3 z_4 z_5 w2) (
  Ix b.a b.len i 1 fun a_3 =>
  ∃ vv_3 : Int, Cell w2 a_3 (.int .u8 vv_3) ∧
  If (vv_3 == 0) (
  If (decide (i > 0)) (
  K 0 0 5 w2) (
  Ar .i64 (i + 1) fun z_6 =>
  K z_3 z_6 0 w2)) (
  Ar .i64 (i + 1) fun z_7 =>
  K z_3 z_7 0 w2))) (
  K 0 0 4 w1)
def A_ref07_Taken : Ann := (.seq .nil (.seq .nil (.seq .nil (.seq (.seq .nil (.block (.loop [(5, .int .u64), (6, .int .u64), (7, .int .i64)] 4503599627370492 (.seq (.seq .nil (.cond .nil .nil)) (.seq (.block (.join [] 8372252 (.seq .nil (.cond (.seq .nil .nil) .nil)) (.seq .nil (.seq .nil (.seq (.seq .nil (.cond .nil .nil)) (.seq (.seq .nil (.cond (.seq .nil .nil) .nil)) (.seq .nil .nil))))))) .nil))))) (.seq .nil .nil)))))
theorem S_ref07_Taken {b : Sl} {w : World} {K : Int → Int → Int → World → Prop} (h : F_ref07_Taken b w K) : C_ref07_Taken b w K := by
  have h1 : wpc Try.prog A_ref07_Taken (Try.f50.body.getD .skip) (retK Try.prog [.one (.int .u64), .one (.int .i64), .one (.int .i64)] Try.f50.results.toList K) (argEnv [.slice b.a b.len b.cap]) w := cast (by kernel_rfl : F_ref07_Taken b w K = wpc Try.prog A_ref07_Taken (Try.f50.body.getD .skip) (retK Try.prog [.one (.int .u64), .one (.int .i64), .one (.int .i64)] Try.f50.results.toList K) (argEnv [.slice b.a b.len b.cap]) w) h
  have h2 : chk Try.prog Try.f50.ntmps A_ref07_Taken (Try.f50.body.getD .skip) = true := by kernel_rfl
  have h4 : Nat.ble (List.length (α := Value) [.slice b.a b.len b.cap]) Try.f50.ntmps = true := by kernel_rfl
  have h5 : Try.f50.body = some (Try.f50.body.getD .skip) := by kernel_rfl
  have h6 := @fn_sound Try.prog 50 Try.f50 (Try.f50.body.getD .skip) A_ref07_Taken [.slice b.a b.len b.cap] [.one (.int .u64), .one (.int .i64), .one (.int .i64)] K w Try.func50 h5 h2 h4 h1
  exact cast (by kernel_rfl : callK Try.prog 50 (List.toArray (α := Value) [.slice b.a b.len b.cap]) [.one (.int .u64), .one (.int .i64), .one (.int .i64)] K w = C_ref07_Taken b w K) h6

def F_ref11_Decode (b : Sl) (w : World) (K : Sl → Int → Int → World → Prop) : Prop :=
  C_ref07_Taken b w fun r0_1 r1_1 r2_1 w1 =>
  If (r2_1 != 0) (
  K ⟨none, 0, 0⟩ r2_1 0 w1) (
  ∃ I0 : Nat → Sl → Int → Int → Int → World → Prop, (∃ m, I0 m ⟨none, 0, 0⟩ r1_1 0 0 w1) ∧ ∀ (_ : Env) (m0 : Nat) (l : Sl) (atv : Int) (endv : Int) (i : Int) (w2 : World), I0 m0 l atv endv i w2 →
  If (decide (i < r0_1)) (
  Cut b atv (((b.len : Nat) : Int)) (((b.cap : Nat) : Int)) 1 fun s =>
  C_ref07_Taken s w2 fun r0_2 r1_2 r2_2 w3 =>
  If (r2_2 != 0) (
  K ⟨none, 0, 0⟩ r2_2 atv w3) (
  ∃ J1 : World → Prop, (
  If (r0_2 == 0) (
  If (decide (i > 0)) (
  K ⟨none, 0, 0⟩ 5 atv w3) (
  Ar .u64 (4294967295 - endv) fun z =>
  If (decide (r0_2 > z)) (
  K ⟨none, 0, 0⟩ 5 atv w3) (
  J1 w3))) (
  Ar .u64 (4294967295 - endv) fun z_1 =>
  If (decide (r0_2 > z_1)) (
  K ⟨none, 0, 0⟩ 5 atv w3) (
  J1 w3))) ∧ ∀ (_ : Env) (w4 : World), J1 w4 →
  Ar .i64 (atv + r1_2) fun z_2 =>
  Cut b z_2 (((b.len : Nat) : Int)) (((b.cap : Nat) : Int)) 1 fun s_1 =>
  C_ref07_Taken s_1 w4 fun r0_3 r1_3 r2_3 w5 =>
  If (r2_3 != 0) (
  K ⟨none, 0, 0⟩ r2_3 z_2 w5) (
  ∃ J0 : World → Prop, (
  If (r0_3 == 0) (
  K ⟨none, 0, 0⟩ 5 z_2 w5) (
  Ar .u64 (4294967295 - endv) fun z_3 =>
  Ar .u64 (z_3 - r0_2) fun z_4 =>
  If (decide (r0_3 > z_4)) (
  K ⟨none, 0, 0⟩ 5 z_2 w5) (
  J0 w5))) ∧ ∀ (_ : Env) (w6 : World), J0 w6 →
  Ar .i64 (z_2 + r1_3) fun z_5 =>
  Ar .u64 (endv + r0_2) fun z_6 =>
  Ar .u32 z_6 fun z_7 =>
  Ar .u64 (endv + r0_2) fun z_8 =>
  Ar .u64 (z_8 + r0_3) fun z_9 =>
  Ar .u32 z_9 fun z_10 =>
  NewW w6 (.cells [.int .u32 z_7, .int .u32 z_10].toArray 32) fun b_1 w7 =>
  AppW Try.prog 22 22 l (.slice (some (Addr.mk b_1 0 none)) 1 1) (fun s_2 w8 =>
  Ar .u64 (endv + r0_2) fun z_11 =>
  Ar .u64 (z_11 + r0_3) fun z_12 =>
  Ar .u64 (i + 1) fun z_13 =>
  ∃ m1, m1 < m0 ∧ I0 m1 s_2 z_5 z_12 z_13 w8) w7))) (
  If (decide (atv < ((b.len : Int)))) (
  K ⟨none, 0, 0⟩ 5 atv w2) (
  K l 0 0 w2)))
def A_ref11_Decode : Ann := (.seq .nil (.seq .nil (.seq .nil (.seq (.seq .nil (.cond (.seq .nil .nil) .nil)) (.seq .nil (.seq (.seq .nil (.block (.loop [(5, .sl), (7, .int .i64), (9, .int .u64), (10, .int .u64)] 5070602400912917605986796076732 (.seq (.seq .nil (.cond .nil .nil)) (.seq (.block (.seq .nil (.seq (.seq .nil (.cond (.seq .nil .nil) .nil)) (.join [] 18012199486226460 (.seq .nil (.cond (.seq .nil .nil) .nil)) (.seq .nil (.seq .nil (.seq (.seq .nil (.cond (.seq .nil .nil) .nil)) (.join [] 1208335523804270469054492 (.seq .nil (.cond (.seq .nil .nil) .nil)) (.seq .nil (.seq .nil .nil)))))))))) .nil))))) (.seq (.seq .nil (.cond (.seq .nil .nil) .nil)) (.seq .nil .nil))))))))
theorem S_ref11_Decode {b : Sl} {w : World} {K : Sl → Int → Int → World → Prop} (h : F_ref11_Decode b w K) : C_ref11_Decode b w K := by
  have h1 : wpc Try.prog A_ref11_Decode (Try.f39.body.getD .skip) (retK Try.prog [.one (.sl), .one (.int .i64), .one (.int .i64)] Try.f39.results.toList K) (argEnv [.slice b.a b.len b.cap]) w := cast (by kernel_rfl : F_ref11_Decode b w K = wpc Try.prog A_ref11_Decode (Try.f39.body.getD .skip) (retK Try.prog [.one (.sl), .one (.int .i64), .one (.int .i64)] Try.f39.results.toList K) (argEnv [.slice b.a b.len b.cap]) w) h
  have h2 : chk Try.prog Try.f39.ntmps A_ref11_Decode (Try.f39.body.getD .skip) = true := by kernel_rfl
  have h4 : Nat.ble (List.length (α := Value) [.slice b.a b.len b.cap]) Try.f39.ntmps = true := by kernel_rfl
  have h5 : Try.f39.body = some (Try.f39.body.getD .skip) := by kernel_rfl
  have h6 := @fn_sound Try.prog 39 Try.f39 (Try.f39.body.getD .skip) A_ref11_Decode [.slice b.a b.len b.cap] [.one (.sl), .one (.int .i64), .one (.int .i64)] K w Try.func39 h5 h2 h4 h1
  exact cast (by kernel_rfl : callK Try.prog 39 (List.toArray (α := Value) [.slice b.a b.len b.cap]) [.one (.sl), .one (.int .i64), .one (.int .i64)] K w = C_ref11_Decode b w K) h6

def F_law11_RunsDecodes (b : Sl) (w : World) (K : Bool → World → Prop) : Prop :=
  C_ref01_Copy b w fun r w1 =>
  C_runs_Decode r w1 fun r0_1 r1 r2 w2 =>
  C_ref11_Decode b w2 fun r0_2 r1_1 r2_1 w3 =>
  C_ref11_Same r0_1 r0_2 w3 fun r_1 w4 =>
  If r_1 (
  If (r1 == r1_1) (
  If (r2 == r2_1) (
  C_law11_known  w4 fun r_2 w5 =>
  K r_2 w5) (
  K false w4)) (
  K false w4)) (
  K false w4)
def A_law11_RunsDecodes : Ann := (.seq .nil (.seq .nil (.seq .nil (.seq .nil .nil))))
theorem S_law11_RunsDecodes {b : Sl} {w : World} {K : Bool → World → Prop} (h : F_law11_RunsDecodes b w K) : C_law11_RunsDecodes b w K := by
  have h1 : wpc Try.prog A_law11_RunsDecodes (Try.f11.body.getD .skip) (retK Try.prog [.one (.bool)] Try.f11.results.toList K) (argEnv [.slice b.a b.len b.cap]) w := cast (by kernel_rfl : F_law11_RunsDecodes b w K = wpc Try.prog A_law11_RunsDecodes (Try.f11.body.getD .skip) (retK Try.prog [.one (.bool)] Try.f11.results.toList K) (argEnv [.slice b.a b.len b.cap]) w) h
  have h2 : chk Try.prog Try.f11.ntmps A_law11_RunsDecodes (Try.f11.body.getD .skip) = true := by kernel_rfl
  have h4 : Nat.ble (List.length (α := Value) [.slice b.a b.len b.cap]) Try.f11.ntmps = true := by kernel_rfl
  have h5 : Try.f11.body = some (Try.f11.body.getD .skip) := by kernel_rfl
  have h6 := @fn_sound Try.prog 11 Try.f11 (Try.f11.body.getD .skip) A_law11_RunsDecodes [.slice b.a b.len b.cap] [.one (.bool)] K w Try.func11 h5 h2 h4 h1
  exact cast (by kernel_rfl : callK Try.prog 11 (List.toArray (α := Value) [.slice b.a b.len b.cap]) [.one (.bool)] K w = C_law11_RunsDecodes b w K) h6

def F_law11_RunsBack (l : Sl) (p : Int) (q : Int) (w : World) (K : Bool → World → Prop) : Prop :=
  ∃ J1 : World → Prop, (
  C_runs_Right l w fun r w1 =>
  If (!r) (
  C_law11_known  w1 fun r_1 w2 =>
  K r_1 w2) (
  If (p == 4294967295) (
  C_law11_known  w1 fun r_2 w3 =>
  K r_2 w3) (
  J1 w1))) ∧ ∀ (_ : Env) (w4 : World), J1 w4 →
  C_runs_Has l p w4 fun r0_1 r1 w5 =>
  If (r1 != 0) (
  K false w5) (
  ∃ J0 : World → Prop, (
  If (!r0_1) (
  C_runs_Give l p w5 fun r0_2 r1_1 w6 =>
  C_runs_Drop r0_2 p w6 fun r0_3 r1_2 w7 =>
  C_runs_Has r0_2 p w7 fun r0_4 r1_3 w8 =>
  C_runs_Has l q w8 fun r0_5 r1_4 w9 =>
  C_runs_Has r0_2 q w9 fun r0_6 r1_5 w10 =>
  If (r1_1 != 0) (
  K false w10) (
  If (r1_2 != 0) (
  K false w10) (
  If (r1_3 != 0) (
  K false w10) (
  If (r1_4 != 0) (
  K false w10) (
  If (r1_5 != 0) (
  K false w10) (
  If (!r0_4) (
  K false w10) (
  If r0_5 (
  If (!(r0_6 == true)) (
  K false w10) (
  C_law11_same r0_3 l w10 fun r_3 w11 =>
  If (!r_3) (
  K false w11) (
  C_runs_Right r0_2 w11 fun r_4 w12 =>
  If (!r_4) (
  K false w12) (
  J0 w12)))) (
  If (!(r0_6 == (p == q))) (
  K false w10) (
  C_law11_same r0_3 l w10 fun r_5 w13 =>
  If (!r_5) (
  K false w13) (
  C_runs_Right r0_2 w13 fun r_6 w14 =>
  If (!r_6) (
  K false w14) (
  J0 w14))))))))))) (
  C_runs_Drop l p w5 fun r0_7 r1_6 w15 =>
  C_runs_Give r0_7 p w15 fun r0_8 r1_7 w16 =>
  C_runs_Has r0_7 p w16 fun r0_9 r1_8 w17 =>
  If (r1_6 != 0) (
  K false w17) (
  If (r1_7 != 0) (
  K false w17) (
  If (r1_8 != 0) (
  K false w17) (
  If r0_9 (
  K false w17) (
  C_law11_same r0_8 l w17 fun r_7 w18 =>
  If (!r_7) (
  K false w18) (
  C_runs_Right r0_7 w18 fun r_8 w19 =>
  If (!r_8) (
  K false w19) (
  J0 w19)))))))) ∧ ∀ (_ : Env) (w20 : World), J0 w20 →
  C_runs_Encode l w20 fun r0_10 r1_9 w21 =>
  C_runs_Decode r0_10 w21 fun r0_11 r1_10 r2 w22 =>
  If (r1_9 == 0) (
  If (r1_10 == 0) (
  If (r2 == 0) (
  C_law11_same r0_11 l w22 fun r_9 w23 =>
  If r_9 (
  C_law11_known  w23 fun r_10 w24 =>
  K r_10 w24) (
  K false w23)) (
  K false w22)) (
  K false w22)) (
  K false w22))
def A_law11_RunsBack : Ann := (.seq .nil (.join [] 136902082624 (.seq .nil (.cond (.seq .nil .nil) .nil)) (.seq .nil (.seq (.seq .nil (.cond (.seq .nil .nil) .nil)) (.join [] 5846006549323611672814739330865132043439391637056 (.seq .nil (.cond (.seq .nil (.seq .nil (.seq .nil (.seq .nil (.seq .nil (.seq .nil (.cond (.seq .nil .nil) .nil))))))) (.seq .nil (.seq .nil (.seq .nil (.seq .nil (.cond (.seq .nil .nil) .nil))))))) (.seq .nil (.seq .nil (.seq .nil .nil))))))))
theorem S_law11_RunsBack {l : Sl} {p : Int} {q : Int} {w : World} {K : Bool → World → Prop} (h : F_law11_RunsBack l p q w K) : C_law11_RunsBack l p q w K := by
  have h1 : wpc Try.prog A_law11_RunsBack (Try.f12.body.getD .skip) (retK Try.prog [.one (.bool)] Try.f12.results.toList K) (argEnv [.slice l.a l.len l.cap, .int .u32 p, .int .u32 q]) w := cast (by kernel_rfl : F_law11_RunsBack l p q w K = wpc Try.prog A_law11_RunsBack (Try.f12.body.getD .skip) (retK Try.prog [.one (.bool)] Try.f12.results.toList K) (argEnv [.slice l.a l.len l.cap, .int .u32 p, .int .u32 q]) w) h
  have h2 : chk Try.prog Try.f12.ntmps A_law11_RunsBack (Try.f12.body.getD .skip) = true := by kernel_rfl
  have h4 : Nat.ble (List.length (α := Value) [.slice l.a l.len l.cap, .int .u32 p, .int .u32 q]) Try.f12.ntmps = true := by kernel_rfl
  have h5 : Try.f12.body = some (Try.f12.body.getD .skip) := by kernel_rfl
  have h6 := @fn_sound Try.prog 12 Try.f12 (Try.f12.body.getD .skip) A_law11_RunsBack [.slice l.a l.len l.cap, .int .u32 p, .int .u32 q] [.one (.bool)] K w Try.func12 h5 h2 h4 h1
  exact cast (by kernel_rfl : callK Try.prog 12 (List.toArray (α := Value) [.slice l.a l.len l.cap, .int .u32 p, .int .u32 q]) [.one (.bool)] K w = C_law11_RunsBack l p q w K) h6
end Go.Proofs.Ytomlobgpeobnfaa
