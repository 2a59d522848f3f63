/- The texts of the Go functions for the calculus, written by a program (gen.py). -/
import Derived.Test.YtdgebnphgfbegaaProg
import Derived.Test.YtdgebnphgfbegaaWpcB
set_option maxRecDepth 100000
namespace Go.Proofs.Ytdgebnphgfbegaa
open Go.V
def C_law08_DiskSynced (first : Sl) (thenv : Sl) (masks : Sl) (w : World) (K : Bool → World → Prop) : Prop :=
  Calls Try.prog 3 #[.slice first.a first.len first.cap, .slice thenv.a thenv.len thenv.cap, .slice masks.a masks.len masks.cap] w fun e w' => ∃ r0 : Bool, e = .returned (.bool r0) ∧ K r0 w'
def C_law09_RegsNone (n : Int) (size : Int) (w : World) (K : Bool → World → Prop) : Prop :=
  Calls Try.prog 4 #[.int .u64 n, .int .i64 size] w fun e w' => ∃ r0 : Bool, e = .returned (.bool r0) ∧ K r0 w'
def C_law09_RegsDraws (draws : Sl) (sizes : Sl) (w : World) (K : Bool → World → Prop) : Prop :=
  Calls Try.prog 5 #[.slice draws.a draws.len draws.cap, .slice sizes.a sizes.len sizes.cap] w fun e w' => ∃ r0 : Bool, e = .returned (.bool r0) ∧ K r0 w'
def C_law08_DiskFails (l : Sl) (fail : Int) (cut : Int) (w : World) (K : Bool → World → Prop) : Prop :=
  Calls Try.prog 6 #[.slice l.a l.len l.cap, .int .i64 fail, .int .i64 cut] w fun e w' => ∃ r0 : Bool, e = .returned (.bool r0) ∧ K r0 w'
def C_law08_DiskCalm (l : Sl) (sync : Int) (w : World) (K : Bool → World → Prop) : Prop :=
  Calls Try.prog 7 #[.slice l.a l.len l.cap, .int .i64 sync] w fun e w' => ∃ r0 : Bool, e = .returned (.bool r0) ∧ K r0 w'
def C_law09_RegsRise (limit : Int) (l : Sl) (w : World) (K : Bool → World → Prop) : Prop :=
  Calls Try.prog 8 #[.int .u64 limit, .slice l.a l.len l.cap] w fun e w' => ∃ r0 : Bool, e = .returned (.bool r0) ∧ K r0 w'
def C_law08_DiskPlays (blocks : Int) (l : Sl) (w : World) (K : Bool → World → Prop) : Prop :=
  Calls Try.prog 9 #[.int .i64 blocks, .slice l.a l.len l.cap] w fun e w' => ∃ r0 : Bool, e = .returned (.bool r0) ∧ K r0 w'
def C_law08_DiskNone (o0 : Int) (o1 : Int) (o2 : Int) (o3 : Sl) (o4 : Sl) (w : World) (K : Bool → World → Prop) : Prop :=
  Calls Try.prog 10 #[.agg ([.int .i64 o0, .int .i64 o1, .int .i64 o2, .slice o3.a o3.len o3.cap, .slice o4.a o4.len o4.cap]).toArray] w fun e w' => ∃ r0 : Bool, e = .returned (.bool r0) ∧ K r0 w'
def C_law09_RegsPlays (limit : Int) (draws : Sl) (l : Sl) (w : World) (K : Bool → World → Prop) : Prop :=
  Calls Try.prog 11 #[.int .u64 limit, .slice draws.a draws.len draws.cap, .slice l.a l.len l.cap] w fun e w' => ∃ r0 : Bool, e = .returned (.bool r0) ∧ K r0 w'
def C_law08_known  (w : World) (K : Bool → World → Prop) : Prop :=
  Calls Try.prog 12 #[] w fun e w' => ∃ r0 : Bool, e = .returned (.bool r0) ∧ K r0 w'
def C_disk_New (blocks : Int) (w : World) (K : Option Addr → Int → World → Prop) : Prop :=
  Calls Try.prog 13 #[.int .i64 blocks] w fun e w' => ∃ r0 : Option Addr, ∃ r1 : Int, e = .returned (.tuple #[.pointer r0, .int .i64 r1]) ∧ K r0 r1 w'
def C_law08_full (x : Int) (w : World) (K : Sl → World → Prop) : Prop :=
  Calls Try.prog 14 #[.int .u8 x] w fun e w' => ∃ r0 : Sl, e = .returned (.slice r0.a r0.len r0.cap) ∧ K r0 w'
def C_disk_Disk_Write (d : Option Addr) (i : Int) (b : Sl) (w : World) (K : Int → World → Prop) : Prop :=
  Calls Try.prog 15 #[.pointer d, .int .i64 i, .slice b.a b.len b.cap] w fun e w' => ∃ r0 : Int, e = .returned (.int .i64 r0) ∧ K r0 w'
def C_disk_Disk_Sync (d : Option Addr) (w : World) (K : Int → World → Prop) : Prop :=
  Calls Try.prog 16 #[.pointer d] w fun e w' => ∃ r0 : Int, e = .returned (.int .i64 r0) ∧ K r0 w'
def C_disk_Disk_Waiting (d : Option Addr) (w : World) (K : Int → World → Prop) : Prop :=
  Calls Try.prog 17 #[.pointer d] w fun e w' => ∃ r0 : Int, e = .returned (.int .i64 r0) ∧ K r0 w'
def C_disk_Disk_Crash (d : Option Addr) (masks : Sl) (w : World) (K : Int → World → Prop) : Prop :=
  Calls Try.prog 18 #[.pointer d, .slice masks.a masks.len masks.cap] w fun e w' => ∃ r0 : Int, e = .returned (.int .i64 r0) ∧ K r0 w'
def C_disk_Disk_Read (d : Option Addr) (i : Int) (w : World) (K : Sl → Int → World → Prop) : Prop :=
  Calls Try.prog 19 #[.pointer d, .int .i64 i] w fun e w' => ∃ r0 : Sl, ∃ r1 : Int, e = .returned (.tuple #[.slice r0.a r0.len r0.cap, .int .i64 r1]) ∧ K r0 r1 w'
def C_regs_New (d : Option Addr) (limit : Int) (draws : Sl) (w : World) (K : Option Addr → Int → World → Prop) : Prop :=
  Calls Try.prog 20 #[.pointer d, .int .u64 limit, .slice draws.a draws.len draws.cap] w fun e w' => ∃ r0 : Option Addr, ∃ r1 : Int, e = .returned (.tuple #[.pointer r0, .int .i64 r1]) ∧ K r0 r1 w'
def C_regs_Regs_Reserve (r : Option Addr) (w : World) (K : Int → Int → World → Prop) : Prop :=
  Calls Try.prog 21 #[.pointer r] w fun e w' => ∃ r0 : Int, ∃ r1 : Int, e = .returned (.tuple #[.int .u64 r0, .int .i64 r1]) ∧ K r0 r1 w'
def C_regs_Regs_Draw (r : Option Addr) (size : Int) (w : World) (K : Sl → Int → World → Prop) : Prop :=
  Calls Try.prog 22 #[.pointer r, .int .i64 size] w fun e w' => ∃ r0 : Sl, ∃ r1 : Int, e = .returned (.tuple #[.slice r0.a r0.len r0.cap, .int .i64 r1]) ∧ K r0 r1 w'
def C_regs_Regs_Advance (r : Option Addr) (n : Int) (w : World) (K : Int → World → Prop) : Prop :=
  Calls Try.prog 23 #[.pointer r, .int .u64 n] w fun e w' => ∃ r0 : Int, e = .returned (.int .i64 r0) ∧ K r0 w'
def C_regs_Regs_Reserved (r : Option Addr) (w : World) (K : Int → World → Prop) : Prop :=
  Calls Try.prog 24 #[.pointer r] w fun e w' => ∃ r0 : Int, e = .returned (.int .u64 r0) ∧ K r0 w'
def C_regs_Regs_Committed (r : Option Addr) (w : World) (K : Int → World → Prop) : Prop :=
  Calls Try.prog 25 #[.pointer r] w fun e w' => ∃ r0 : Int, e = .returned (.int .u64 r0) ∧ K r0 w'
def C_regs_Regs_Left (r : Option Addr) (w : World) (K : Int → World → Prop) : Prop :=
  Calls Try.prog 26 #[.pointer r] w fun e w' => ∃ r0 : Int, e = .returned (.int .i64 r0) ∧ K r0 w'
def C_law09_known  (w : World) (K : Bool → World → Prop) : Prop :=
  Calls Try.prog 27 #[] w fun e w' => ∃ r0 : Bool, e = .returned (.bool r0) ∧ K r0 w'
def C_disk_Disk_Steps (d : Option Addr) (w : World) (K : Int → World → Prop) : Prop :=
  Calls Try.prog 28 #[.pointer d] w fun e w' => ∃ r0 : Int, e = .returned (.int .u64 r0) ∧ K r0 w'
def C_disk_Disk_Fail (d : Option Addr) (n : Int) (w : World) (K : World → Prop) : Prop :=
  Calls Try.prog 29 #[.pointer d, .int .i64 n] w fun e w' => e = .returned (undef) ∧ K w'
def C_disk_Disk_Cut (d : Option Addr) (n : Int) (w : World) (K : World → Prop) : Prop :=
  Calls Try.prog 30 #[.pointer d, .int .i64 n] w fun e w' => e = .returned (undef) ∧ K w'
def C_disk_Disk_Step (d : Option Addr) (w : World) (K : Int → World → Prop) : Prop :=
  Calls Try.prog 31 #[.pointer d] w fun e w' => ∃ r0 : Int, e = .returned (.int .i64 r0) ∧ K r0 w'
def C_disk_Disk_Down (d : Option Addr) (w : World) (K : Bool → World → Prop) : Prop :=
  Calls Try.prog 32 #[.pointer d] w fun e w' => ∃ r0 : Bool, e = .returned (.bool r0) ∧ K r0 w'
def C_disk_Disk_Fork (d : Option Addr) (w : World) (K : Option Addr → World → Prop) : Prop :=
  Calls Try.prog 33 #[.pointer d] w fun e w' => ∃ r0 : Option Addr, e = .returned (.pointer r0) ∧ K r0 w'
def C_disk_Disk_Firm (d : Option Addr) (i : Int) (w : World) (K : Sl → Int → World → Prop) : Prop :=
  Calls Try.prog 34 #[.pointer d, .int .i64 i] w fun e w' => ∃ r0 : Sl, ∃ r1 : Int, e = .returned (.tuple #[.slice r0.a r0.len r0.cap, .int .i64 r1]) ∧ K r0 r1 w'
def C_law09_heavy (draws : Sl) (l : Sl) (w : World) (K : Bool → World → Prop) : Prop :=
  Calls Try.prog 35 #[.slice draws.a draws.len draws.cap, .slice l.a l.len l.cap] w fun e w' => ∃ r0 : Bool, e = .returned (.bool r0) ∧ K r0 w'
def C_ref08_May (blocks : Int) (w : World) (K : Bool → World → Prop) : Prop :=
  Calls Try.prog 36 #[.int .i64 blocks] w fun e w' => ∃ r0 : Bool, e = .returned (.bool r0) ∧ K r0 w'
def C_law08_heavy (l : Sl) (w : World) (K : Bool → World → Prop) : Prop :=
  Calls Try.prog 37 #[.slice l.a l.len l.cap] w fun e w' => ∃ r0 : Bool, e = .returned (.bool r0) ∧ K r0 w'
def C_ref08_New (blocks : Int) (w : World) (K : Option Addr → World → Prop) : Prop :=
  Calls Try.prog 38 #[.int .i64 blocks] w fun e w' => ∃ r0 : Option Addr, e = .returned (.pointer r0) ∧ K r0 w'
def C_law08_Does (d : Option Addr) (wv : Option Addr) (o0 : Int) (o1 : Int) (o2 : Int) (o3 : Sl) (o4 : Sl) (w : World) (K : Option Addr → Bool → World → Prop) : Prop :=
  Calls Try.prog 39 #[.pointer d, .pointer wv, .agg ([.int .i64 o0, .int .i64 o1, .int .i64 o2, .slice o3.a o3.len o3.cap, .slice o4.a o4.len o4.cap]).toArray] w fun e w' => ∃ r0 : Option Addr, ∃ r1 : Bool, e = .returned (.tuple #[.pointer r0, .bool r1]) ∧ K r0 r1 w'
def C_disk_Disk_Blocks (d : Option Addr) (w : World) (K : Int → World → Prop) : Prop :=
  Calls Try.prog 40 #[.pointer d] w fun e w' => ∃ r0 : Int, e = .returned (.int .i64 r0) ∧ K r0 w'
def C_ref01_Same (a : Sl) (b : Sl) (w : World) (K : Bool → World → Prop) : Prop :=
  Calls Try.prog 41 #[.slice a.a a.len a.cap, .slice b.a b.len b.cap] w fun e w' => ∃ r0 : Bool, e = .returned (.bool r0) ∧ K r0 w'
def C_disk_Disk_Foreign (d : Option Addr) (i : Int) (atv : Int) (b : Sl) (w : World) (K : Int → World → Prop) : Prop :=
  Calls Try.prog 42 #[.pointer d, .int .i64 i, .int .i64 atv, .slice b.a b.len b.cap] w fun e w' => ∃ r0 : Int, e = .returned (.int .i64 r0) ∧ K r0 w'
def C_ref01_Copy (b : Sl) (w : World) (K : Sl → World → Prop) : Prop :=
  Calls Try.prog 43 #[.slice b.a b.len b.cap] w fun e w' => ∃ r0 : Sl, e = .returned (.slice r0.a r0.len r0.cap) ∧ K r0 w'
def C_ref09_New (d : Option Addr) (limit : Int) (draws : Sl) (w : World) (K : Option Addr → World → Prop) : Prop :=
  Calls Try.prog 44 #[.pointer d, .int .u64 limit, .slice draws.a draws.len draws.cap] w fun e w' => ∃ r0 : Option Addr, e = .returned (.pointer r0) ∧ K r0 w'
def C_ref09_Regs_Reserve (r : Option Addr) (w : World) (K : Int → Int → World → Prop) : Prop :=
  Calls Try.prog 45 #[.pointer r] w fun e w' => ∃ r0 : Int, ∃ r1 : Int, e = .returned (.tuple #[.int .u64 r0, .int .i64 r1]) ∧ K r0 r1 w'
def C_ref09_Regs_Advance (r : Option Addr) (n : Int) (w : World) (K : Int → World → Prop) : Prop :=
  Calls Try.prog 46 #[.pointer r, .int .u64 n] w fun e w' => ∃ r0 : Int, e = .returned (.int .i64 r0) ∧ K r0 w'
def C_ref09_Regs_Draw (r : Option Addr) (size : Int) (w : World) (K : Sl → Int → World → Prop) : Prop :=
  Calls Try.prog 47 #[.pointer r, .int .i64 size] w fun e w' => ∃ r0 : Sl, ∃ r1 : Int, e = .returned (.tuple #[.slice r0.a r0.len r0.cap, .int .i64 r1]) ∧ K r0 r1 w'
def C_disk_Disk_has (d : Option Addr) (i : Int) (w : World) (K : Bool → World → Prop) : Prop :=
  Calls Try.prog 48 #[.pointer d, .int .i64 i] w fun e w' => ∃ r0 : Bool, e = .returned (.bool r0) ∧ K r0 w'
def C_disk_Disk_step (d : Option Addr) (w : World) (K : Int → World → Prop) : Prop :=
  Calls Try.prog 49 #[.pointer d] w fun e w' => ∃ r0 : Int, e = .returned (.int .i64 r0) ∧ K r0 w'
def C_ref08_Disk_Write (d : Option Addr) (i : Int) (b : Sl) (w : World) (K : Int → World → Prop) : Prop :=
  Calls Try.prog 50 #[.pointer d, .int .i64 i, .slice b.a b.len b.cap] w fun e w' => ∃ r0 : Int, e = .returned (.int .i64 r0) ∧ K r0 w'
def C_ref08_Disk_Read (d : Option Addr) (i : Int) (w : World) (K : Sl → Int → World → Prop) : Prop :=
  Calls Try.prog 51 #[.pointer d, .int .i64 i] w fun e w' => ∃ r0 : Sl, ∃ r1 : Int, e = .returned (.tuple #[.slice r0.a r0.len r0.cap, .int .i64 r1]) ∧ K r0 r1 w'
def C_ref08_Disk_Sync (d : Option Addr) (w : World) (K : Int → World → Prop) : Prop :=
  Calls Try.prog 52 #[.pointer d] w fun e w' => ∃ r0 : Int, e = .returned (.int .i64 r0) ∧ K r0 w'
def C_ref08_Disk_Step (d : Option Addr) (w : World) (K : Int → World → Prop) : Prop :=
  Calls Try.prog 53 #[.pointer d] w fun e w' => ∃ r0 : Int, e = .returned (.int .i64 r0) ∧ K r0 w'
def C_ref08_Disk_Crash (d : Option Addr) (masks : Sl) (w : World) (K : World → Prop) : Prop :=
  Calls Try.prog 54 #[.pointer d, .slice masks.a masks.len masks.cap] w fun e w' => e = .returned (undef) ∧ K w'
def C_ref08_Disk_Foreign (d : Option Addr) (i : Int) (atv : Int) (b : Sl) (w : World) (K : Int → World → Prop) : Prop :=
  Calls Try.prog 55 #[.pointer d, .int .i64 i, .int .i64 atv, .slice b.a b.len b.cap] w fun e w' => ∃ r0 : Int, e = .returned (.int .i64 r0) ∧ K r0 w'
def C_ref08_Disk_Has (d : Option Addr) (i : Int) (w : World) (K : Bool → World → Prop) : Prop :=
  Calls Try.prog 56 #[.pointer d, .int .i64 i] w fun e w' => ∃ r0 : Bool, e = .returned (.bool r0) ∧ K r0 w'

def F_regs_New (d : Option Addr) (limit : Int) (draws : Sl) (w : World) (K : Option Addr → Int → World → Prop) : Prop :=
  If (Option.isNone d) (
  K none 1 w) (
  NewW w (.cells [.pointer d, .int .u64 limit, .int .u64 0, .int .u64 0, .slice none 0 0].toArray 89) fun b w1 =>
  ∃ I0 : Nat → Int → World → Prop, (∃ m, I0 m 0 w1) ∧ ∀ (_ : Env) (m0 : Nat) (t : Int) (w2 : World), I0 m0 t w2 →
  If (decide (t < ((draws.len : Int)))) (
  Ix draws.a draws.len t 1 fun a =>
  ∃ vv : Sl, Cell w2 a (.slice vv.a vv.len vv.cap) ∧
  ∃ S : World → Prop, S (drewW w2) ∧
  Nn (some (Addr.mk b 0 none)) fun a_1 =>
  ∃ vv_1 : Sl, Held S (a_1.add 4) (.slice vv_1.a vv_1.len vv_1.cap) ∧
  NewW (drewW w2) (.cells [].toArray 5) fun b_1 w3 =>
  S w3 ∧
  AppW Try.prog 23 23 ⟨some (Addr.mk b_1 0 none), 0, 0⟩ (.slice vv.a vv.len vv.cap) (fun s w4 =>
  S w4 ∧
  NewW w4 (.cells [.slice s.a s.len s.cap].toArray 23) fun b_2 w5 =>
  S w5 ∧
  AppW Try.prog 49 49 vv_1 (.slice (some (Addr.mk b_2 0 none)) 1 1) (fun s_1 w6 =>
  S w6 ∧
  Nn (some (Addr.mk b 0 none)) fun a_2 =>
  St1 w6 (a_2.add 4) (.slice s_1.a s_1.len s_1.cap) fun w7 =>
  Ar .i64 (t + 1) fun z =>
  ∃ m1, m1 < m0 ∧ I0 m1 z w7) w5) w3) (
  K (some (Addr.mk b 0 none)) 0 w2))
def A_regs_New : Ann := (.seq .nil (.seq (.seq .nil (.cond (.seq .nil .nil) .nil)) (.seq .nil (.seq (.seq .nil (.block (.loop [(19, .int .i64)] 68718953472 (.seq .nil (.seq (.cond .nil .nil) (.seq (.block (.seq .nil (.draw (.take 0 (.take 1 (.take 2 (.take 3 (.take 4 (.take 6 (.one 5 (.one 7 (.one 8 (.one 9 (.take 10 (.take 11 (.last 12)))))))))))))))) .nil)))))) (.seq .nil .nil)))))
theorem S_regs_New {d : Option Addr} {limit : Int} {draws : Sl} {w : World} {K : Option Addr → Int → World → Prop} (h : F_regs_New d limit draws w K) : C_regs_New d limit draws w K := by
  have h1 : wpc Try.prog A_regs_New (Try.f20.body.getD .skip) (retK Try.prog [.one (.ptr), .one (.int .i64)] Try.f20.results.toList K) (argEnv [.pointer d, .int .u64 limit, .slice draws.a draws.len draws.cap]) w := cast (by kernel_rfl : F_regs_New d limit draws w K = wpc Try.prog A_regs_New (Try.f20.body.getD .skip) (retK Try.prog [.one (.ptr), .one (.int .i64)] Try.f20.results.toList K) (argEnv [.pointer d, .int .u64 limit, .slice draws.a draws.len draws.cap]) w) h
  have h2 : chk Try.prog Try.f20.ntmps A_regs_New (Try.f20.body.getD .skip) = true := by kernel_rfl
  have h4 : Nat.ble (List.length (α := Value) [.pointer d, .int .u64 limit, .slice draws.a draws.len draws.cap]) Try.f20.ntmps = true := by kernel_rfl
  have h5 : Try.f20.body = some (Try.f20.body.getD .skip) := by kernel_rfl
  have h6 := @fn_sound Try.prog 20 Try.f20 (Try.f20.body.getD .skip) A_regs_New [.pointer d, .int .u64 limit, .slice draws.a draws.len draws.cap] [.one (.ptr), .one (.int .i64)] K w Try.func20 h5 h2 h4 h1
  exact cast (by kernel_rfl : callK Try.prog 20 (List.toArray (α := Value) [.pointer d, .int .u64 limit, .slice draws.a draws.len draws.cap]) [.one (.ptr), .one (.int .i64)] K w = C_regs_New d limit draws w K) h6

def F_disk_Disk_step (d : Option Addr) (w : World) (K : Int → World → Prop) : Prop :=
  ∃ J1 : World → Prop, (
  Nn d fun a =>
  ∃ vv : Bool, Cell w (a.add 6) (.bool vv) ∧
  If (!vv) (
  Nn d fun a_1 =>
  ∃ vv_1 : Int, Cell w (a_1.add 5) (.int .i64 vv_1) ∧
  If (vv_1 == 0) (
  Nn d fun a_2 =>
  St1 w (a_2.add 6) (.bool true) fun w1 =>
  J1 w1) (
  J1 w)) (
  J1 w)) ∧ ∀ (_ : Env) (w2 : World), J1 w2 →
  Nn d fun a_3 =>
  ∃ vv_2 : Bool, Cell w2 (a_3.add 6) (.bool vv_2) ∧
  If vv_2 (
  K 81 w2) (
  ∃ J0 : World → Prop, (
  Nn d fun a_4 =>
  ∃ vv_3 : Int, Cell w2 (a_4.add 5) (.int .i64 vv_3) ∧
  If (decide (vv_3 > 0)) (
  Nn d fun a_5 =>
  ∃ vv_4 : Int, Cell w2 (a_5.add 5) (.int .i64 vv_4) ∧
  Ar .i64 (vv_4 - 1) fun z =>
  Nn d fun a_6 =>
  St1 w2 (a_6.add 5) (.int .i64 z) fun w3 =>
  J0 w3) (
  J0 w2)) ∧ ∀ (_ : Env) (w4 : World), J0 w4 →
  Nn d fun a_7 =>
  ∃ vv_5 : Int, Cell w4 (a_7.add 3) (.int .u64 vv_5) ∧
  Ar .u64 (vv_5 + 1) fun z_1 =>
  Nn d fun a_8 =>
  St1 w4 (a_8.add 3) (.int .u64 z_1) fun w5 =>
  Nn d fun a_9 =>
  ∃ vv_6 : Int, Cell w5 (a_9.add 4) (.int .i64 vv_6) ∧
  If (decide (vv_6 > 0)) (
  Nn d fun a_10 =>
  ∃ vv_7 : Int, Cell w5 (a_10.add 4) (.int .i64 vv_7) ∧
  Ar .i64 (vv_7 - 1) fun z_2 =>
  Nn d fun a_11 =>
  St1 w5 (a_11.add 4) (.int .i64 z_2) fun w6 =>
  Nn d fun a_12 =>
  ∃ vv_8 : Int, Cell w6 (a_12.add 4) (.int .i64 vv_8) ∧
  If (vv_8 == 0) (
  K 80 w6) (
  K 0 w6)) (
  K 0 w5))
def A_disk_Disk_step : Ann := (.seq .nil (.join [] 262136 (.seq .nil (.cond .nil .nil)) (.seq (.seq .nil (.cond (.seq .nil .nil) .nil)) (.join [] 17175674880 (.seq .nil (.cond .nil .nil)) (.seq .nil (.seq (.seq .nil (.cond (.seq .nil (.seq .nil (.cond (.seq .nil .nil) .nil))) .nil)) (.seq .nil .nil)))))))
theorem S_disk_Disk_step {d : Option Addr} {w : World} {K : Int → World → Prop} (h : F_disk_Disk_step d w K) : C_disk_Disk_step d w K := by
  have h1 : wpc Try.prog A_disk_Disk_step (Try.f49.body.getD .skip) (retK Try.prog [.one (.int .i64)] Try.f49.results.toList K) (argEnv [.pointer d]) w := cast (by kernel_rfl : F_disk_Disk_step d w K = wpc Try.prog A_disk_Disk_step (Try.f49.body.getD .skip) (retK Try.prog [.one (.int .i64)] Try.f49.results.toList K) (argEnv [.pointer d]) w) h
  have h2 : chk Try.prog Try.f49.ntmps A_disk_Disk_step (Try.f49.body.getD .skip) = true := by kernel_rfl
  have h4 : Nat.ble (List.length (α := Value) [.pointer d]) Try.f49.ntmps = true := by kernel_rfl
  have h5 : Try.f49.body = some (Try.f49.body.getD .skip) := by kernel_rfl
  have h6 := @fn_sound Try.prog 49 Try.f49 (Try.f49.body.getD .skip) A_disk_Disk_step [.pointer d] [.one (.int .i64)] K w Try.func49 h5 h2 h4 h1
  exact cast (by kernel_rfl : callK Try.prog 49 (List.toArray (α := Value) [.pointer d]) [.one (.int .i64)] K w = C_disk_Disk_step d w K) h6

def F_disk_Disk_Step (d : Option Addr) (w : World) (K : Int → World → Prop) : Prop :=
  If (Option.isNone d) (
  K 1 w) (
  C_disk_Disk_step d w fun r w1 =>
  K r w1)
def A_disk_Disk_Step : Ann := (.seq .nil (.seq (.seq .nil (.cond (.seq .nil .nil) .nil)) (.seq .nil .nil)))
theorem S_disk_Disk_Step {d : Option Addr} {w : World} {K : Int → World → Prop} (h : F_disk_Disk_Step d w K) : C_disk_Disk_Step d w K := by
  have h1 : wpc Try.prog A_disk_Disk_Step (Try.f31.body.getD .skip) (retK Try.prog [.one (.int .i64)] Try.f31.results.toList K) (argEnv [.pointer d]) w := cast (by kernel_rfl : F_disk_Disk_Step d w K = wpc Try.prog A_disk_Disk_Step (Try.f31.body.getD .skip) (retK Try.prog [.one (.int .i64)] Try.f31.results.toList K) (argEnv [.pointer d]) w) h
  have h2 : chk Try.prog Try.f31.ntmps A_disk_Disk_Step (Try.f31.body.getD .skip) = true := by kernel_rfl
  have h4 : Nat.ble (List.length (α := Value) [.pointer d]) Try.f31.ntmps = true := by kernel_rfl
  have h5 : Try.f31.body = some (Try.f31.body.getD .skip) := by kernel_rfl
  have h6 := @fn_sound Try.prog 31 Try.f31 (Try.f31.body.getD .skip) A_disk_Disk_Step [.pointer d] [.one (.int .i64)] K w Try.func31 h5 h2 h4 h1
  exact cast (by kernel_rfl : callK Try.prog 31 (List.toArray (α := Value) [.pointer d]) [.one (.int .i64)] K w = C_disk_Disk_Step d w K) h6

def F_regs_Regs_Reserve (r : Option Addr) (w : World) (K : Int → Int → World → Prop) : Prop :=
  If (Option.isNone r) (
  K 0 1 w) (
  ∃ S : World → Prop, S (drewW w) ∧
  Nn r fun a =>
  ∃ vv : Int, Held S (a.add 2) (.int .u64 vv) ∧
  Nn r fun a_1 =>
  ∃ vv_1 : Int, Held S (a_1.add 1) (.int .u64 vv_1) ∧
  If (decide (vv ≥ vv_1)) (
  K 0 90 ((drewW w))) (
  Nn r fun a_2 =>
  ∃ vv_2 : Option Addr, Cell (drewW w) a_2 (.pointer vv_2) ∧
  C_disk_Disk_Step vv_2 (drewW w) fun r_1 w1 =>
  If (r_1 != 0) (
  K 0 r_1 w1) (
  Nn r fun a_3 =>
  ∃ vv_3 : Int, Cell w1 (a_3.add 2) (.int .u64 vv_3) ∧
  Ar .u64 (vv_3 + 1) fun z =>
  Nn r fun a_4 =>
  St1 w1 (a_4.add 2) (.int .u64 z) fun w2 =>
  Nn r fun a_5 =>
  ∃ vv_4 : Int, Cell w2 (a_5.add 2) (.int .u64 vv_4) ∧
  K vv_4 0 w2)))
def A_regs_Regs_Reserve : Ann := (.seq .nil (.seq (.seq .nil (.cond (.seq .nil .nil) .nil)) (.seq (.seq (.draw (.take 0 (.take 1 (.take 2 (.take 3 (.take 4 (.take 5 (.take 6 (.take 7 (.take 8 .fin)))))))))) (.cond (.seq .nil .nil) .nil)) (.seq (.seq .nil (.seq .nil (.cond (.seq .nil .nil) .nil))) (.seq .nil (.seq .nil .nil))))))
theorem S_regs_Regs_Reserve {r : Option Addr} {w : World} {K : Int → Int → World → Prop} (h : F_regs_Regs_Reserve r w K) : C_regs_Regs_Reserve r w K := by
  have h1 : wpc Try.prog A_regs_Regs_Reserve (Try.f21.body.getD .skip) (retK Try.prog [.one (.int .u64), .one (.int .i64)] Try.f21.results.toList K) (argEnv [.pointer r]) w := cast (by kernel_rfl : F_regs_Regs_Reserve r w K = wpc Try.prog A_regs_Regs_Reserve (Try.f21.body.getD .skip) (retK Try.prog [.one (.int .u64), .one (.int .i64)] Try.f21.results.toList K) (argEnv [.pointer r]) w) h
  have h2 : chk Try.prog Try.f21.ntmps A_regs_Regs_Reserve (Try.f21.body.getD .skip) = true := by kernel_rfl
  have h4 : Nat.ble (List.length (α := Value) [.pointer r]) Try.f21.ntmps = true := by kernel_rfl
  have h5 : Try.f21.body = some (Try.f21.body.getD .skip) := by kernel_rfl
  have h6 := @fn_sound Try.prog 21 Try.f21 (Try.f21.body.getD .skip) A_regs_Regs_Reserve [.pointer r] [.one (.int .u64), .one (.int .i64)] K w Try.func21 h5 h2 h4 h1
  exact cast (by kernel_rfl : callK Try.prog 21 (List.toArray (α := Value) [.pointer r]) [.one (.int .u64), .one (.int .i64)] K w = C_regs_Regs_Reserve r w K) h6

def F_regs_Regs_Draw (r : Option Addr) (size : Int) (w : World) (K : Sl → Int → World → Prop) : Prop :=
  If (Option.isNone r) (
  K ⟨none, 0, 0⟩ 1 w) (
  ∃ J1 : World → Prop, (
  If (decide (size < 1)) (
  K ⟨none, 0, 0⟩ 2 w) (
  If (decide (size > 64)) (
  K ⟨none, 0, 0⟩ 2 w) (
  J1 w))) ∧ ∀ (_ : Env) (w1 : World), J1 w1 →
  ∃ J0 : World → Prop, (
  Nn r fun a =>
  ∃ vv : Sl, Cell w1 (a.add 4) (.slice vv.a vv.len vv.cap) ∧
  If (((vv.len : Int)) == 0) (
  K ⟨none, 0, 0⟩ 91 w1) (
  Nn r fun a_1 =>
  ∃ vv_1 : Sl, Cell w1 (a_1.add 4) (.slice vv_1.a vv_1.len vv_1.cap) ∧
  Ix vv_1.a vv_1.len 0 1 fun a_2 =>
  ∃ vv_2 : Sl, Cell w1 a_2 (.slice vv_2.a vv_2.len vv_2.cap) ∧
  If (decide (((vv_2.len : Int)) < size)) (
  K ⟨none, 0, 0⟩ 91 w1) (
  J0 w1))) ∧ ∀ (_ : Env) (w2 : World), J0 w2 →
  Nn r fun a_3 =>
  ∃ vv_3 : Sl, Cell w2 (a_3.add 4) (.slice vv_3.a vv_3.len vv_3.cap) ∧
  Ix vv_3.a vv_3.len 0 1 fun a_4 =>
  ∃ vv_4 : Sl, Cell w2 a_4 (.slice vv_4.a vv_4.len vv_4.cap) ∧
  Cut vv_4 0 size size 1 fun s =>
  Nn r fun a_5 =>
  ∃ vv_5 : Sl, Cell w2 (a_5.add 4) (.slice vv_5.a vv_5.len vv_5.cap) ∧
  Cut vv_5 1 (((vv_5.len : Nat) : Int)) (((vv_5.cap : Nat) : Int)) 1 fun s_1 =>
  Nn r fun a_6 =>
  St1 w2 (a_6.add 4) (.slice s_1.a s_1.len s_1.cap) fun w3 =>
  K s 0 w3)
def A_regs_Regs_Draw : Ann := (.seq .nil (.seq (.seq .nil (.cond (.seq .nil .nil) .nil)) (.join [] 32304 (.seq .nil (.cond (.seq .nil .nil) .nil)) (.join [] 4294934576 (.seq .nil (.cond (.seq .nil .nil) .nil)) (.seq .nil (.seq .nil (.seq .nil .nil)))))))
theorem S_regs_Regs_Draw {r : Option Addr} {size : Int} {w : World} {K : Sl → Int → World → Prop} (h : F_regs_Regs_Draw r size w K) : C_regs_Regs_Draw r size w K := by
  have h1 : wpc Try.prog A_regs_Regs_Draw (Try.f22.body.getD .skip) (retK Try.prog [.one (.sl), .one (.int .i64)] Try.f22.results.toList K) (argEnv [.pointer r, .int .i64 size]) w := cast (by kernel_rfl : F_regs_Regs_Draw r size w K = wpc Try.prog A_regs_Regs_Draw (Try.f22.body.getD .skip) (retK Try.prog [.one (.sl), .one (.int .i64)] Try.f22.results.toList K) (argEnv [.pointer r, .int .i64 size]) w) h
  have h2 : chk Try.prog Try.f22.ntmps A_regs_Regs_Draw (Try.f22.body.getD .skip) = true := by kernel_rfl
  have h4 : Nat.ble (List.length (α := Value) [.pointer r, .int .i64 size]) Try.f22.ntmps = true := by kernel_rfl
  have h5 : Try.f22.body = some (Try.f22.body.getD .skip) := by kernel_rfl
  have h6 := @fn_sound Try.prog 22 Try.f22 (Try.f22.body.getD .skip) A_regs_Regs_Draw [.pointer r, .int .i64 size] [.one (.sl), .one (.int .i64)] K w Try.func22 h5 h2 h4 h1
  exact cast (by kernel_rfl : callK Try.prog 22 (List.toArray (α := Value) [.pointer r, .int .i64 size]) [.one (.sl), .one (.int .i64)] K w = C_regs_Regs_Draw r size w K) h6

def F_regs_Regs_Advance (r : Option Addr) (n : Int) (w : World) (K : Int → World → Prop) : Prop :=
  If (Option.isNone r) (
  K 1 w) (
  ∃ J0 : World → Prop, (
  Nn r fun a =>
  ∃ vv : Int, Cell w (a.add 3) (.int .u64 vv) ∧
  If (decide (n ≤ vv)) (
  K 2 w) (
  Nn r fun a_1 =>
  ∃ vv_1 : Int, Cell w (a_1.add 2) (.int .u64 vv_1) ∧
  If (decide (n > vv_1)) (
  K 2 w) (
  J0 w))) ∧ ∀ (_ : Env) (w1 : World), J0 w1 →
  Nn r fun a_2 =>
  ∃ vv_2 : Option Addr, Cell w1 a_2 (.pointer vv_2) ∧
  C_disk_Disk_Step vv_2 w1 fun r_1 w2 =>
  If (r_1 != 0) (
  K r_1 w2) (
  Nn r fun a_3 =>
  St1 w2 (a_3.add 3) (.int .u64 n) fun w3 =>
  K 0 w3))
def A_regs_Regs_Advance : Ann := (.seq .nil (.seq (.seq .nil (.cond (.seq .nil .nil) .nil)) (.join [] 4194064 (.seq .nil (.cond (.seq .nil .nil) .nil)) (.seq (.seq .nil (.seq .nil (.cond (.seq .nil .nil) .nil))) (.seq .nil (.seq .nil .nil))))))
theorem S_regs_Regs_Advance {r : Option Addr} {n : Int} {w : World} {K : Int → World → Prop} (h : F_regs_Regs_Advance r n w K) : C_regs_Regs_Advance r n w K := by
  have h1 : wpc Try.prog A_regs_Regs_Advance (Try.f23.body.getD .skip) (retK Try.prog [.one (.int .i64)] Try.f23.results.toList K) (argEnv [.pointer r, .int .u64 n]) w := cast (by kernel_rfl : F_regs_Regs_Advance r n w K = wpc Try.prog A_regs_Regs_Advance (Try.f23.body.getD .skip) (retK Try.prog [.one (.int .i64)] Try.f23.results.toList K) (argEnv [.pointer r, .int .u64 n]) w) h
  have h2 : chk Try.prog Try.f23.ntmps A_regs_Regs_Advance (Try.f23.body.getD .skip) = true := by kernel_rfl
  have h4 : Nat.ble (List.length (α := Value) [.pointer r, .int .u64 n]) Try.f23.ntmps = true := by kernel_rfl
  have h5 : Try.f23.body = some (Try.f23.body.getD .skip) := by kernel_rfl
  have h6 := @fn_sound Try.prog 23 Try.f23 (Try.f23.body.getD .skip) A_regs_Regs_Advance [.pointer r, .int .u64 n] [.one (.int .i64)] K w Try.func23 h5 h2 h4 h1
  exact cast (by kernel_rfl : callK Try.prog 23 (List.toArray (α := Value) [.pointer r, .int .u64 n]) [.one (.int .i64)] K w = C_regs_Regs_Advance r n w K) h6

def F_regs_Regs_Reserved (r : Option Addr) (w : World) (K : Int → World → Prop) : Prop :=
  If (Option.isNone r) (
  K 0 w) (
  Nn r fun a =>
  ∃ vv : Int, Cell w (a.add 2) (.int .u64 vv) ∧
  K vv w)
def A_regs_Regs_Reserved : Ann := (.seq .nil (.seq (.seq .nil (.cond (.seq .nil .nil) .nil)) (.seq .nil .nil)))
theorem S_regs_Regs_Reserved {r : Option Addr} {w : World} {K : Int → World → Prop} (h : F_regs_Regs_Reserved r w K) : C_regs_Regs_Reserved r w K := by
  have h1 : wpc Try.prog A_regs_Regs_Reserved (Try.f24.body.getD .skip) (retK Try.prog [.one (.int .u64)] Try.f24.results.toList K) (argEnv [.pointer r]) w := cast (by kernel_rfl : F_regs_Regs_Reserved r w K = wpc Try.prog A_regs_Regs_Reserved (Try.f24.body.getD .skip) (retK Try.prog [.one (.int .u64)] Try.f24.results.toList K) (argEnv [.pointer r]) w) h
  have h2 : chk Try.prog Try.f24.ntmps A_regs_Regs_Reserved (Try.f24.body.getD .skip) = true := by kernel_rfl
  have h4 : Nat.ble (List.length (α := Value) [.pointer r]) Try.f24.ntmps = true := by kernel_rfl
  have h5 : Try.f24.body = some (Try.f24.body.getD .skip) := by kernel_rfl
  have h6 := @fn_sound Try.prog 24 Try.f24 (Try.f24.body.getD .skip) A_regs_Regs_Reserved [.pointer r] [.one (.int .u64)] K w Try.func24 h5 h2 h4 h1
  exact cast (by kernel_rfl : callK Try.prog 24 (List.toArray (α := Value) [.pointer r]) [.one (.int .u64)] K w = C_regs_Regs_Reserved r w K) h6

def F_regs_Regs_Committed (r : Option Addr) (w : World) (K : Int → World → Prop) : Prop :=
  If (Option.isNone r) (
  K 0 w) (
  Nn r fun a =>
  ∃ vv : Int, Cell w (a.add 3) (.int .u64 vv) ∧
  K vv w)
def A_regs_Regs_Committed : Ann := (.seq .nil (.seq (.seq .nil (.cond (.seq .nil .nil) .nil)) (.seq .nil .nil)))
theorem S_regs_Regs_Committed {r : Option Addr} {w : World} {K : Int → World → Prop} (h : F_regs_Regs_Committed r w K) : C_regs_Regs_Committed r w K := by
  have h1 : wpc Try.prog A_regs_Regs_Committed (Try.f25.body.getD .skip) (retK Try.prog [.one (.int .u64)] Try.f25.results.toList K) (argEnv [.pointer r]) w := cast (by kernel_rfl : F_regs_Regs_Committed r w K = wpc Try.prog A_regs_Regs_Committed (Try.f25.body.getD .skip) (retK Try.prog [.one (.int .u64)] Try.f25.results.toList K) (argEnv [.pointer r]) w) h
  have h2 : chk Try.prog Try.f25.ntmps A_regs_Regs_Committed (Try.f25.body.getD .skip) = true := by kernel_rfl
  have h4 : Nat.ble (List.length (α := Value) [.pointer r]) Try.f25.ntmps = true := by kernel_rfl
  have h5 : Try.f25.body = some (Try.f25.body.getD .skip) := by kernel_rfl
  have h6 := @fn_sound Try.prog 25 Try.f25 (Try.f25.body.getD .skip) A_regs_Regs_Committed [.pointer r] [.one (.int .u64)] K w Try.func25 h5 h2 h4 h1
  exact cast (by kernel_rfl : callK Try.prog 25 (List.toArray (α := Value) [.pointer r]) [.one (.int .u64)] K w = C_regs_Regs_Committed r w K) h6

def F_regs_Regs_Left (r : Option Addr) (w : World) (K : Int → World → Prop) : Prop :=
  If (Option.isNone r) (
  K 0 w) (
  Nn r fun a =>
  ∃ vv : Sl, Cell w (a.add 4) (.slice vv.a vv.len vv.cap) ∧
  K (vv.len : Int) w)
def A_regs_Regs_Left : Ann := (.seq .nil (.seq (.seq .nil (.cond (.seq .nil .nil) .nil)) (.seq .nil .nil)))
theorem S_regs_Regs_Left {r : Option Addr} {w : World} {K : Int → World → Prop} (h : F_regs_Regs_Left r w K) : C_regs_Regs_Left r w K := by
  have h1 : wpc Try.prog A_regs_Regs_Left (Try.f26.body.getD .skip) (retK Try.prog [.one (.int .i64)] Try.f26.results.toList K) (argEnv [.pointer r]) w := cast (by kernel_rfl : F_regs_Regs_Left r w K = wpc Try.prog A_regs_Regs_Left (Try.f26.body.getD .skip) (retK Try.prog [.one (.int .i64)] Try.f26.results.toList K) (argEnv [.pointer r]) w) h
  have h2 : chk Try.prog Try.f26.ntmps A_regs_Regs_Left (Try.f26.body.getD .skip) = true := by kernel_rfl
  have h4 : Nat.ble (List.length (α := Value) [.pointer r]) Try.f26.ntmps = true := by kernel_rfl
  have h5 : Try.f26.body = some (Try.f26.body.getD .skip) := by kernel_rfl
  have h6 := @fn_sound Try.prog 26 Try.f26 (Try.f26.body.getD .skip) A_regs_Regs_Left [.pointer r] [.one (.int .i64)] K w Try.func26 h5 h2 h4 h1
  exact cast (by kernel_rfl : callK Try.prog 26 (List.toArray (α := Value) [.pointer r]) [.one (.int .i64)] K w = C_regs_Regs_Left r w K) h6

def F_disk_New (blocks : Int) (w : World) (K : Option Addr → Int → World → Prop) : Prop :=
  ∃ J0 : World → Prop, (
  If (decide (blocks < 8)) (
  K none 2 w) (
  If (decide (blocks > 4096)) (
  K none 2 w) (
  J0 w))) ∧ ∀ (_ : Env) (w1 : World), J0 w1 →
  ∃ S : World → Prop, S (drewW w1) ∧
  (
  MkW (drewW w1) 85 (List.replicate 256 (.int .u8 0)) 256 blocks blocks fun s w2 =>
  S w2 ∧
  MkW w2 85 (List.replicate 256 (.int .u8 0)) 256 blocks blocks fun s_1 w3 =>
  S w3 ∧
  NewW w3 (.cells [.slice s.a s.len s.cap, .slice s_1.a s_1.len s_1.cap, .slice none 0 0, .int .u64 0, .int .i64 0, .int .i64 (-1), .bool false].toArray 83) fun b w4 =>
  S w4 ∧
  K (some (Addr.mk b 0 none)) 0 w4) ∧ (
  MkW (drewW w1) 85 (List.replicate 256 (.int .u8 0)) 256 blocks blocks fun s_2 w5 =>
  S w5 ∧
  MkW w5 85 (List.replicate 256 (.int .u8 0)) 256 blocks blocks fun s_3 w6 =>
  S w6 ∧
  NewW w6 (.cells [.slice s_3.a s_3.len s_3.cap, .slice s_2.a s_2.len s_2.cap, .slice none 0 0, .int .u64 0, .int .i64 0, .int .i64 (-1), .bool false].toArray 83) fun b_1 w7 =>
  S w7 ∧
  K (some (Addr.mk b_1 0 none)) 0 w7)
def A_disk_New : Ann := (.seq .nil (.join [] 1020 (.seq .nil (.cond (.seq .nil .nil) .nil)) (.seq (.draw (.take 0 (.take 2 (.two 1 (.one 3 (.take 4 (.one 5 (.take 6 (.take 7 .fin))))) 3 (.one 1 (.take 4 (.one 5 (.take 6 (.take 7 .fin))))))))) .nil)))
theorem S_disk_New {blocks : Int} {w : World} {K : Option Addr → Int → World → Prop} (h : F_disk_New blocks w K) : C_disk_New blocks w K := by
  have h1 : wpc Try.prog A_disk_New (Try.f13.body.getD .skip) (retK Try.prog [.one (.ptr), .one (.int .i64)] Try.f13.results.toList K) (argEnv [.int .i64 blocks]) w := cast (by kernel_rfl : F_disk_New blocks w K = wpc Try.prog A_disk_New (Try.f13.body.getD .skip) (retK Try.prog [.one (.ptr), .one (.int .i64)] Try.f13.results.toList K) (argEnv [.int .i64 blocks]) w) h
  have h2 : chk Try.prog Try.f13.ntmps A_disk_New (Try.f13.body.getD .skip) = true := by kernel_rfl
  have h4 : Nat.ble (List.length (α := Value) [.int .i64 blocks]) Try.f13.ntmps = true := by kernel_rfl
  have h5 : Try.f13.body = some (Try.f13.body.getD .skip) := by kernel_rfl
  have h6 := @fn_sound Try.prog 13 Try.f13 (Try.f13.body.getD .skip) A_disk_New [.int .i64 blocks] [.one (.ptr), .one (.int .i64)] K w Try.func13 h5 h2 h4 h1
  exact cast (by kernel_rfl : callK Try.prog 13 (List.toArray (α := Value) [.int .i64 blocks]) [.one (.ptr), .one (.int .i64)] K w = C_disk_New blocks w K) h6

def F_law09_known  (w : World) (K : Bool → World → Prop) : Prop :=
  C_disk_New 8 w fun r0_1 r1 w1 =>
  NewW w1 (.cells [.int .u8 1, .int .u8 2, .int .u8 3].toArray 5) fun b w2 =>
  NewW w2 (.cells [.slice (some (Addr.mk b 0 none)) 3 3].toArray 23) fun b_1 w3 =>
  C_regs_New r0_1 9 ⟨some (Addr.mk b_1 0 none), 1, 1⟩ w3 fun r0_2 r1_1 w4 =>
  ∃ J0 : World → Prop, (
  If (Option.isNone r0_1) (
  K false w4) (
  If (Option.isNone r0_2) (
  K false w4) (
  If (r1 != 0) (
  K false w4) (
  If (r1_1 != 0) (
  K false w4) (
  J0 w4))))) ∧ ∀ (_ : Env) (w5 : World), J0 w5 →
  C_regs_Regs_Reserve r0_2 w5 fun r0_3 r1_2 w6 =>
  C_regs_Regs_Reserve r0_2 w6 fun r0_4 r1_3 w7 =>
  C_regs_Regs_Advance r0_2 2 w7 fun r w8 =>
  C_regs_Regs_Draw r0_2 2 w8 fun r0_5 r1_4 w9 =>
  If (r0_3 == 1) (
  If (r0_4 == 2) (
  If (r1_2 == 0) (
  If (r1_3 == 0) (
  If (r == 0) (
  If (r1_4 == 0) (
  StrC (Cell w9) r0_5 fun str =>
  If (ByteArray.toList str == ByteArray.toList (⟨#[1, 2]⟩)) (
  C_regs_Regs_Committed r0_2 w9 fun r_1 w10 =>
  If (r_1 == 2) (
  C_regs_Regs_Left r0_2 w10 fun r_2 w11 =>
  K (r_2 == 0) w11) (
  K false w10)) (
  K false w9)) (
  K false w9)) (
  K false w9)) (
  K false w9)) (
  K false w9)) (
  K false w9)) (
  K false w9)
def A_law09_known : Ann := (.seq .nil (.seq .nil (.seq .nil (.join [] 137430564865 (.seq .nil (.cond (.seq .nil .nil) .nil)) (.seq .nil (.seq .nil (.seq .nil (.seq .nil (.seq .nil .nil)))))))))
theorem S_law09_known  {w : World} {K : Bool → World → Prop} (h : F_law09_known  w K) : C_law09_known  w K := by
  have h1 : wpc Try.prog A_law09_known (Try.f27.body.getD .skip) (retK Try.prog [.one (.bool)] Try.f27.results.toList K) (argEnv []) w := cast (by kernel_rfl : F_law09_known  w K = wpc Try.prog A_law09_known (Try.f27.body.getD .skip) (retK Try.prog [.one (.bool)] Try.f27.results.toList K) (argEnv []) w) h
  have h2 : chk Try.prog Try.f27.ntmps A_law09_known (Try.f27.body.getD .skip) = true := by kernel_rfl
  have h4 : Nat.ble (List.length (α := Value) []) Try.f27.ntmps = true := by kernel_rfl
  have h5 : Try.f27.body = some (Try.f27.body.getD .skip) := by kernel_rfl
  have h6 := @fn_sound Try.prog 27 Try.f27 (Try.f27.body.getD .skip) A_law09_known [] [.one (.bool)] K w Try.func27 h5 h2 h4 h1
  exact cast (by kernel_rfl : callK Try.prog 27 (List.toArray (α := Value) []) [.one (.bool)] K w = C_law09_known  w K) h6

def F_law09_RegsNone (n : Int) (size : Int) (w : World) (K : Bool → World → Prop) : Prop :=
  C_regs_New none n ⟨none, 0, 0⟩ w fun r0_1 r1 w1 =>
  ∃ J0 : World → Prop, (
  If (!(Option.isNone r0_1)) (
  K false w1) (
  If (r1 != 1) (
  K false w1) (
  J0 w1))) ∧ ∀ (_ : Env) (w2 : World), J0 w2 →
  C_regs_Regs_Reserve r0_1 w2 fun r0_2 r1_1 w3 =>
  C_regs_Regs_Draw r0_1 size w3 fun r0_3 r1_2 w4 =>
  If (r0_2 == 0) (
  If (r1_1 == 1) (
  If (((r0_3.len : Int)) == 0) (
  If (r1_2 == 1) (
  C_regs_Regs_Advance r0_1 n w4 fun r w5 =>
  If (r == 1) (
  C_regs_Regs_Reserved r0_1 w5 fun r_1 w6 =>
  If (r_1 == 0) (
  C_regs_Regs_Committed r0_1 w6 fun r_2 w7 =>
  If (r_2 == 0) (
  C_regs_Regs_Left r0_1 w7 fun r_3 w8 =>
  If (r_3 == 0) (
  C_law09_known  w8 fun r_4 w9 =>
  K r_4 w9) (
  K false w8)) (
  K false w7)) (
  K false w6)) (
  K false w5)) (
  K false w4)) (
  K false w4)) (
  K false w4)) (
  K false w4)
def A_law09_RegsNone : Ann := (.seq .nil (.seq .nil (.join [] 4128784 (.seq .nil (.cond (.seq .nil .nil) .nil)) (.seq .nil (.seq .nil (.seq .nil .nil))))))
theorem S_law09_RegsNone {n : Int} {size : Int} {w : World} {K : Bool → World → Prop} (h : F_law09_RegsNone n size w K) : C_law09_RegsNone n size w K := by
  have h1 : wpc Try.prog A_law09_RegsNone (Try.f4.body.getD .skip) (retK Try.prog [.one (.bool)] Try.f4.results.toList K) (argEnv [.int .u64 n, .int .i64 size]) w := cast (by kernel_rfl : F_law09_RegsNone n size w K = wpc Try.prog A_law09_RegsNone (Try.f4.body.getD .skip) (retK Try.prog [.one (.bool)] Try.f4.results.toList K) (argEnv [.int .u64 n, .int .i64 size]) w) h
  have h2 : chk Try.prog Try.f4.ntmps A_law09_RegsNone (Try.f4.body.getD .skip) = true := by kernel_rfl
  have h4 : Nat.ble (List.length (α := Value) [.int .u64 n, .int .i64 size]) Try.f4.ntmps = true := by kernel_rfl
  have h5 : Try.f4.body = some (Try.f4.body.getD .skip) := by kernel_rfl
  have h6 := @fn_sound Try.prog 4 Try.f4 (Try.f4.body.getD .skip) A_law09_RegsNone [.int .u64 n, .int .i64 size] [.one (.bool)] K w Try.func4 h5 h2 h4 h1
  exact cast (by kernel_rfl : callK Try.prog 4 (List.toArray (α := Value) [.int .u64 n, .int .i64 size]) [.one (.bool)] K w = C_law09_RegsNone n size w K) h6

def F_disk_Disk_Steps (d : Option Addr) (w : World) (K : Int → World → Prop) : Prop :=
  If (Option.isNone d) (
  K 0 w) (
  Nn d fun a =>
  ∃ vv : Int, Cell w (a.add 3) (.int .u64 vv) ∧
  K vv w)
def A_disk_Disk_Steps : Ann := (.seq .nil (.seq (.seq .nil (.cond (.seq .nil .nil) .nil)) (.seq .nil .nil)))
theorem S_disk_Disk_Steps {d : Option Addr} {w : World} {K : Int → World → Prop} (h : F_disk_Disk_Steps d w K) : C_disk_Disk_Steps d w K := by
  have h1 : wpc Try.prog A_disk_Disk_Steps (Try.f28.body.getD .skip) (retK Try.prog [.one (.int .u64)] Try.f28.results.toList K) (argEnv [.pointer d]) w := cast (by kernel_rfl : F_disk_Disk_Steps d w K = wpc Try.prog A_disk_Disk_Steps (Try.f28.body.getD .skip) (retK Try.prog [.one (.int .u64)] Try.f28.results.toList K) (argEnv [.pointer d]) w) h
  have h2 : chk Try.prog Try.f28.ntmps A_disk_Disk_Steps (Try.f28.body.getD .skip) = true := by kernel_rfl
  have h4 : Nat.ble (List.length (α := Value) [.pointer d]) Try.f28.ntmps = true := by kernel_rfl
  have h5 : Try.f28.body = some (Try.f28.body.getD .skip) := by kernel_rfl
  have h6 := @fn_sound Try.prog 28 Try.f28 (Try.f28.body.getD .skip) A_disk_Disk_Steps [.pointer d] [.one (.int .u64)] K w Try.func28 h5 h2 h4 h1
  exact cast (by kernel_rfl : callK Try.prog 28 (List.toArray (α := Value) [.pointer d]) [.one (.int .u64)] K w = C_disk_Disk_Steps d w K) h6

def F_law09_RegsDraws (draws : Sl) (sizes : Sl) (w : World) (K : Bool → World → Prop) : Prop :=
  If (decide (((draws.len : Int)) > 200)) (
  C_law09_known  w fun r w1 =>
  K r w1) (
  ∃ I2 : Nat → Int → World → Prop, (∃ m, I2 m 0 w) ∧ ∀ (_ : Env) (m0 : Nat) (t : Int) (w2 : World), I2 m0 t w2 →
  If (decide (t < ((draws.len : Int)))) (
  Ix draws.a draws.len t 1 fun a =>
  ∃ vv : Sl, Cell w2 a (.slice vv.a vv.len vv.cap) ∧
  If (decide (((vv.len : Int)) > 80)) (
  C_law09_known  w2 fun r_1 w3 =>
  K r_1 w3) (
  Ar .i64 (t + 1) fun z =>
  ∃ m1, m1 < m0 ∧ I2 m1 z w2)) (
  C_disk_New 8 w2 fun r0_1 r1 w4 =>
  C_regs_New r0_1 0 draws w4 fun r0_2 r1_1 w5 =>
  ∃ J2 : World → Prop, (
  If (Option.isNone r0_1) (
  K false w5) (
  If (Option.isNone r0_2) (
  K false w5) (
  If (r1 != 0) (
  K false w5) (
  If (r1_1 != 0) (
  K false w5) (
  J2 w5))))) ∧ ∀ (_ : Env) (w6 : World), J2 w6 →
  ∃ I1 : Nat → Int → Int → World → Prop, (∃ m, I1 m 0 0 w6) ∧ ∀ (_ : Env) (m0_1 : Nat) (atv : Int) (t_1 : Int) (w7 : World), I1 m0_1 atv t_1 w7 →
  If (decide (t_1 < ((sizes.len : Int)))) (
  Ix sizes.a sizes.len t_1 1 fun a_1 =>
  ∃ vv_1 : Int, Cell w7 a_1 (.int .i64 vv_1) ∧
  C_regs_Regs_Draw r0_2 vv_1 w7 fun r0_3 r1_2 w8 =>
  ∃ J1 : Int → World → Prop, (
  If (r1_2 == 0) (
  ∃ J0 : World → Prop, (
  ∃ S : World → Prop, S (drewW w8) ∧
  If (decide (atv ≥ ((draws.len : Int)))) (
  K false ((drewW w8))) (
  If (decide (vv_1 < 1)) (
  K false ((drewW w8))) (
  If (decide (vv_1 > 64)) (
  K false ((drewW w8))) (
  Ix draws.a draws.len atv 1 fun a_2 =>
  ∃ vv_2 : Sl, Held S a_2 (.slice vv_2.a vv_2.len vv_2.cap) ∧
  If (decide (vv_1 > ((vv_2.len : Int)))) (
  K false ((drewW w8))) (
  StrC (Held S) r0_3 fun str =>
  Ix draws.a draws.len atv 1 fun a_3 =>
  ∃ vv_3 : Sl, Held S a_3 (.slice vv_3.a vv_3.len vv_3.cap) ∧
  Cut vv_3 0 vv_1 (((vv_3.cap : Nat) : Int)) 1 fun s =>
  StrC (Held S) s fun str_1 =>
  If (!(ByteArray.toList str == ByteArray.toList str_1)) (
  K false ((drewW w8))) (
  J0 ((drewW w8)))))))) ∧ ∀ (_ : Env) (w9 : World), J0 w9 →
  ∃ I0 : Nat → Int → World → Prop, (∃ m, I0 m 0 w9) ∧ ∀ (_ : Env) (m0_2 : Nat) (t_2 : Int) (w10 : World), I0 m0_2 t_2 w10 →
  If (decide (t_2 < ((r0_3.len : Int)))) (
  Ix r0_3.a r0_3.len t_2 1 fun a_4 =>
  ∃ vv_4 : Int, Cell w10 a_4 (.int .u8 vv_4) ∧
  Nm (bitI .xor .u8 vv_4 255) fun z_1 =>
  Ix r0_3.a r0_3.len t_2 1 fun a_5 =>
  St1 w10 a_5 (.int .u8 z_1) fun w11 =>
  Ar .i64 (t_2 + 1) fun z_2 =>
  ∃ m1_2, m1_2 < m0_2 ∧ I0 m1_2 z_2 w11) (
  Ar .i64 (atv + 1) fun z_3 =>
  J1 z_3 w10)) (
  If (decide (vv_1 ≥ 1)) (
  If (decide (vv_1 ≤ 64)) (
  If (decide (atv < ((draws.len : Int)))) (
  Ix draws.a draws.len atv 1 fun a_6 =>
  ∃ vv_5 : Sl, Cell w8 a_6 (.slice vv_5.a vv_5.len vv_5.cap) ∧
  If (decide (vv_1 ≤ ((vv_5.len : Int)))) (
  K false w8) (
  If (((r0_3.len : Int)) != 0) (
  K false w8) (
  J1 atv w8))) (
  If (((r0_3.len : Int)) != 0) (
  K false w8) (
  J1 atv w8))) (
  If (((r0_3.len : Int)) != 0) (
  K false w8) (
  J1 atv w8))) (
  If (((r0_3.len : Int)) != 0) (
  K false w8) (
  J1 atv w8)))) ∧ ∀ (_ : Env) (atv_1 : Int) (w12 : World), J1 atv_1 w12 →
  C_regs_Regs_Left r0_2 w12 fun r_2 w13 =>
  Ar .i64 (((draws.len : Int)) - atv_1) fun z_4 =>
  If (r_2 != z_4) (
  K false w13) (
  Ar .i64 (t_1 + 1) fun z_5 =>
  ∃ m1_1, m1_1 < m0_1 ∧ I1 m1_1 atv_1 z_5 w13)) (
  C_disk_Disk_Steps r0_1 w7 fun r_3 w14 =>
  If (r_3 == 0) (
  C_law09_known  w14 fun r_4 w15 =>
  K r_4 w15) (
  K false w14))))
def A_law09_RegsDraws : Ann := (.seq .nil (.seq (.seq .nil (.cond (.seq .nil .nil) .nil)) (.seq (.seq .nil (.block (.loop [(22, .int .i64)] 8585740336 (.seq .nil (.seq (.cond .nil .nil) (.seq (.block (.seq .nil (.seq .nil (.cond (.seq .nil .nil) .nil)))) .nil)))))) (.seq .nil (.seq .nil (.join [] 144106391982833680 (.seq .nil (.cond (.seq .nil .nil) .nil)) (.seq .nil (.seq (.seq .nil (.block (.loop [(10, .int .i64), (59, .int .i64)] 5708990770823839524233143877221519793227625488 (.seq .nil (.seq (.cond .nil .nil) (.seq (.block (.seq .nil (.seq .nil (.join [(10, .int .i64)] 22300745198530623141535127976838002800362512 (.seq .nil (.cond (.join [] 20282409601290487182512428679184 (.seq (.draw (.take 0 (.take 1 (.take 2 (.take 3 (.take 4 (.take 5 (.take 6 (.take 7 (.take 8 (.take 9 (.take 10 (.take 11 (.take 12 (.take 13 (.take 14 (.take 15 (.take 16 (.take 17 (.take 18 (.take 19 (.take 20 (.take 21 (.take 22 (.take 23 (.take 24 (.take 25 (.take 26 (.take 27 (.take 28 (.take 29 (.take 30 (.take 31 (.take 32 .fin)))))))))))))))))))))))))))))))))) (.cond (.seq .nil .nil) .nil)) (.seq (.seq .nil (.block (.loop [(106, .int .i64)] 82995620098142635374792152262410240 (.seq .nil (.seq (.cond .nil .nil) (.seq (.block (.seq .nil .nil)) .nil)))))) .nil)) (.seq .nil (.cond (.seq .nil .nil) .nil)))) (.seq .nil (.cond (.seq .nil .nil) .nil)))))) .nil)))))) (.seq .nil .nil)))))))))
theorem S_law09_RegsDraws {draws : Sl} {sizes : Sl} {w : World} {K : Bool → World → Prop} (h : F_law09_RegsDraws draws sizes w K) : C_law09_RegsDraws draws sizes w K := by
  have h1 : wpc Try.prog A_law09_RegsDraws (Try.f5.body.getD .skip) (retK Try.prog [.one (.bool)] Try.f5.results.toList K) (argEnv [.slice draws.a draws.len draws.cap, .slice sizes.a sizes.len sizes.cap]) w := cast (by kernel_rfl : F_law09_RegsDraws draws sizes w K = wpc Try.prog A_law09_RegsDraws (Try.f5.body.getD .skip) (retK Try.prog [.one (.bool)] Try.f5.results.toList K) (argEnv [.slice draws.a draws.len draws.cap, .slice sizes.a sizes.len sizes.cap]) w) h
  have h2 : chk Try.prog Try.f5.ntmps A_law09_RegsDraws (Try.f5.body.getD .skip) = true := by kernel_rfl
  have h4 : Nat.ble (List.length (α := Value) [.slice draws.a draws.len draws.cap, .slice sizes.a sizes.len sizes.cap]) Try.f5.ntmps = true := by kernel_rfl
  have h5 : Try.f5.body = some (Try.f5.body.getD .skip) := by kernel_rfl
  have h6 := @fn_sound Try.prog 5 Try.f5 (Try.f5.body.getD .skip) A_law09_RegsDraws [.slice draws.a draws.len draws.cap, .slice sizes.a sizes.len sizes.cap] [.one (.bool)] K w Try.func5 h5 h2 h4 h1
  exact cast (by kernel_rfl : callK Try.prog 5 (List.toArray (α := Value) [.slice draws.a draws.len draws.cap, .slice sizes.a sizes.len sizes.cap]) [.one (.bool)] K w = C_law09_RegsDraws draws sizes w K) h6

def F_disk_Disk_Crash (d : Option Addr) (masks : Sl) (w : World) (K : Int → World → Prop) : Prop :=
  If (Option.isNone d) (
  K 1 w) (
  ∃ J0 : World → Prop, (
  Nn d fun a =>
  ∃ vv : Sl, Cell w (a.add 2) (.slice vv.a vv.len vv.cap) ∧
  ∃ I1 : Nat → Int → World → Prop, (∃ m, I1 m 0 w) ∧ ∀ (_ : Env) (m0 : Nat) (t : Int) (w1 : World), I1 m0 t w1 →
  If (decide (t < ((vv.len : Int)))) (
  Ix vv.a vv.len t 257 fun a_1 =>
  ∃ c : Int, Cell w1 a_1 (.int .i64 c) ∧
  ∃ l : List Int, l.length = 256 ∧ RowC (Cell w1) a_1 1 .u8 l ∧
  NewW w1 (.cells ((.int .i64 0 : Value) :: List.replicate 256 (.int .u8 0)).toArray 87) fun b w2 =>
  List.length (α := Value) ((.int .i64 c : Value) :: (List.map (Value.int .u8) l ++ [])) = 257 ∧ StN w2 (Addr.mk b 0 none) ((.int .i64 c : Value) :: (List.map (Value.int .u8) l ++ [])) fun w3 =>
  If (decide (t ≥ ((masks.len : Int)))) (
  J0 w3) (
  ∃ I0 : Nat → Int → World → Prop, (∃ m, I0 m 0 w3) ∧ ∀ (_ : Env) (m0_1 : Nat) (t_1 : Int) (w4 : World), I0 m0_1 t_1 w4 →
  If (decide (t_1 < 4)) (
  Ix masks.a masks.len t 1 fun a_2 =>
  ∃ vv_1 : Int, Cell w4 a_2 (.int .u8 vv_1) ∧
  (0 : Int) ≤ t_1 ∧ Nm (Int.fdiv vv_1 (2 ^ min (Int.toNat t_1) (IntKind.bits .u8))) fun z =>
  Nm (bitI .and .u8 z 1) fun z_1 =>
  If (z_1 != 0) (
  ∃ S : World → Prop, S (drewW w4) ∧
  Nn d fun a_3 =>
  ∃ vv_2 : Sl, Held S (a_3.add 1) (.slice vv_2.a vv_2.len vv_2.cap) ∧
  ∃ vv_3 : Int, Held S (Addr.mk b 0 none) (.int .i64 vv_3) ∧
  Ix vv_2.a vv_2.len vv_3 256 fun a_4 =>
  Ar .i64 (t_1 * 64) fun z_2 =>
  Ar .i64 (t_1 + 1) fun z_3 =>
  Ar .i64 (z_3 * 64) fun z_4 =>
  Cut ⟨some a_4, 256, 256⟩ z_2 z_4 (((256 : Nat) : Int)) 1 fun s =>
  Ar .i64 (t_1 * 64) fun z_5 =>
  Cut ⟨some ((Addr.mk b 0 none).add 1), 256, 256⟩ z_5 (((256 : Nat) : Int)) (((256 : Nat) : Int)) 1 fun s_1 =>
  CopyW Try.prog 23 23 s (.slice s_1.a s_1.len s_1.cap) (fun _z_6 w5 =>
  S w5 ∧
  Ar .i64 (t_1 + 1) fun z_7 =>
  ∃ m1_1, m1_1 < m0_1 ∧ I0 m1_1 z_7 w5) (drewW w4)) (
  Ar .i64 (t_1 + 1) fun z_8 =>
  ∃ m1_1, m1_1 < m0_1 ∧ I0 m1_1 z_8 w4)) (
  Ar .i64 (t + 1) fun z_9 =>
  ∃ m1, m1 < m0 ∧ I1 m1 z_9 w4))) (
  J0 w1)) ∧ ∀ (_ : Env) (w6 : World), J0 w6 →
  ∃ S : World → Prop, S (drewW w6) ∧
  Nn d fun a_5 =>
  ∃ vv_4 : Sl, Held S a_5 (.slice vv_4.a vv_4.len vv_4.cap) ∧
  Nn d fun a_6 =>
  ∃ vv_5 : Sl, Held S (a_6.add 1) (.slice vv_5.a vv_5.len vv_5.cap) ∧
  CopyW Try.prog 80 80 vv_4 (.slice vv_5.a vv_5.len vv_5.cap) (fun _z_10 w7 =>
  S w7 ∧
  Nn d fun a_7 =>
  St1 w7 (a_7.add 2) (.slice none 0 0) fun w8 =>
  Nn d fun a_8 =>
  St1 w8 (a_8.add 4) (.int .i64 0) fun w9 =>
  Nn d fun a_9 =>
  St1 w9 (a_9.add 5) (.int .i64 (-1)) fun w10 =>
  Nn d fun a_10 =>
  St1 w10 (a_10.add 6) (.bool false) fun w11 =>
  K 0 w11) (drewW w6))
def A_disk_Disk_Crash : Ann := (.seq .nil (.seq (.seq .nil (.cond (.seq .nil .nil) .nil)) (.join [] 36028797018963168 (.seq .nil (.block (.loop [(15, .int .i64)] 36028797018931424 (.seq .nil (.seq (.cond .nil .nil) (.seq (.block (.seq .nil (.seq (.seq .nil (.cond .nil .nil)) (.seq .nil (.block (.loop [(24, .int .i64)] 18014398492704896 (.seq .nil (.seq (.cond .nil .nil) (.seq (.block (.seq .nil (.seq .nil (.cond (.draw (.take 0 (.take 1 (.take 2 (.take 3 (.take 4 (.take 5 (.take 6 (.take 7 (.take 8 (.take 9 (.take 10 (.take 11 (.take 12 (.take 13 (.take 14 (.take 15 (.take 16 (.one 17 .fin))))))))))))))))))) .nil)))) .nil))))))))) .nil)))))) (.seq (.draw (.take 0 (.take 1 (.take 2 (.take 3 (.take 4 (.take 5 (.take 6 (.take 7 (.one 8 .fin)))))))))) (.seq .nil (.seq .nil (.seq .nil .nil)))))))
theorem S_disk_Disk_Crash {d : Option Addr} {masks : Sl} {w : World} {K : Int → World → Prop} (h : F_disk_Disk_Crash d masks w K) : C_disk_Disk_Crash d masks w K := by
  have h1 : wpc Try.prog A_disk_Disk_Crash (Try.f18.body.getD .skip) (retK Try.prog [.one (.int .i64)] Try.f18.results.toList K) (argEnv [.pointer d, .slice masks.a masks.len masks.cap]) w := cast (by kernel_rfl : F_disk_Disk_Crash d masks w K = wpc Try.prog A_disk_Disk_Crash (Try.f18.body.getD .skip) (retK Try.prog [.one (.int .i64)] Try.f18.results.toList K) (argEnv [.pointer d, .slice masks.a masks.len masks.cap]) w) h
  have h2 : chk Try.prog Try.f18.ntmps A_disk_Disk_Crash (Try.f18.body.getD .skip) = true := by kernel_rfl
  have h4 : Nat.ble (List.length (α := Value) [.pointer d, .slice masks.a masks.len masks.cap]) Try.f18.ntmps = true := by kernel_rfl
  have h5 : Try.f18.body = some (Try.f18.body.getD .skip) := by kernel_rfl
  have h6 := @fn_sound Try.prog 18 Try.f18 (Try.f18.body.getD .skip) A_disk_Disk_Crash [.pointer d, .slice masks.a masks.len masks.cap] [.one (.int .i64)] K w Try.func18 h5 h2 h4 h1
  exact cast (by kernel_rfl : callK Try.prog 18 (List.toArray (α := Value) [.pointer d, .slice masks.a masks.len masks.cap]) [.one (.int .i64)] K w = C_disk_Disk_Crash d masks w K) h6

def F_disk_Disk_Fail (d : Option Addr) (n : Int) (w : World) (K : World → Prop) : Prop :=
  If (!(Option.isNone d)) (
  Nm (iMax n 0) fun z =>
  Nn d fun a =>
  St1 w (a.add 4) (.int .i64 z) fun w1 =>
  K w1) (
  K w)
def A_disk_Disk_Fail : Ann := (.seq .nil (.cond .nil .nil))
theorem S_disk_Disk_Fail {d : Option Addr} {n : Int} {w : World} {K : World → Prop} (h : F_disk_Disk_Fail d n w K) : C_disk_Disk_Fail d n w K := by
  have h1 : wpc Try.prog A_disk_Disk_Fail (Try.f29.body.getD .skip) (retK Try.prog [] Try.f29.results.toList K) (argEnv [.pointer d, .int .i64 n]) w := cast (by kernel_rfl : F_disk_Disk_Fail d n w K = wpc Try.prog A_disk_Disk_Fail (Try.f29.body.getD .skip) (retK Try.prog [] Try.f29.results.toList K) (argEnv [.pointer d, .int .i64 n]) w) h
  have h2 : chk Try.prog Try.f29.ntmps A_disk_Disk_Fail (Try.f29.body.getD .skip) = true := by kernel_rfl
  have h4 : Nat.ble (List.length (α := Value) [.pointer d, .int .i64 n]) Try.f29.ntmps = true := by kernel_rfl
  have h5 : Try.f29.body = some (Try.f29.body.getD .skip) := by kernel_rfl
  have h6 := @fn_sound Try.prog 29 Try.f29 (Try.f29.body.getD .skip) A_disk_Disk_Fail [.pointer d, .int .i64 n] [] K w Try.func29 h5 h2 h4 h1
  exact cast (by kernel_rfl : callK Try.prog 29 (List.toArray (α := Value) [.pointer d, .int .i64 n]) [] K w = C_disk_Disk_Fail d n w K) h6

def F_disk_Disk_Cut (d : Option Addr) (n : Int) (w : World) (K : World → Prop) : Prop :=
  If (!(Option.isNone d)) (
  Nm (iMax n (-1)) fun z =>
  Nn d fun a =>
  St1 w (a.add 5) (.int .i64 z) fun w1 =>
  K w1) (
  K w)
def A_disk_Disk_Cut : Ann := (.seq .nil (.cond .nil .nil))
theorem S_disk_Disk_Cut {d : Option Addr} {n : Int} {w : World} {K : World → Prop} (h : F_disk_Disk_Cut d n w K) : C_disk_Disk_Cut d n w K := by
  have h1 : wpc Try.prog A_disk_Disk_Cut (Try.f30.body.getD .skip) (retK Try.prog [] Try.f30.results.toList K) (argEnv [.pointer d, .int .i64 n]) w := cast (by kernel_rfl : F_disk_Disk_Cut d n w K = wpc Try.prog A_disk_Disk_Cut (Try.f30.body.getD .skip) (retK Try.prog [] Try.f30.results.toList K) (argEnv [.pointer d, .int .i64 n]) w) h
  have h2 : chk Try.prog Try.f30.ntmps A_disk_Disk_Cut (Try.f30.body.getD .skip) = true := by kernel_rfl
  have h4 : Nat.ble (List.length (α := Value) [.pointer d, .int .i64 n]) Try.f30.ntmps = true := by kernel_rfl
  have h5 : Try.f30.body = some (Try.f30.body.getD .skip) := by kernel_rfl
  have h6 := @fn_sound Try.prog 30 Try.f30 (Try.f30.body.getD .skip) A_disk_Disk_Cut [.pointer d, .int .i64 n] [] K w Try.func30 h5 h2 h4 h1
  exact cast (by kernel_rfl : callK Try.prog 30 (List.toArray (α := Value) [.pointer d, .int .i64 n]) [] K w = C_disk_Disk_Cut d n w K) h6

def F_law09_heavy (draws : Sl) (l : Sl) (w : World) (K : Bool → World → Prop) : Prop :=
  ∃ I1 : Nat → Int → Int → World → Prop, (∃ m, I1 m 0 0 w) ∧ ∀ (_ : Env) (m0 : Nat) (n : Int) (t : Int) (w1 : World), I1 m0 n t w1 →
  If (decide (t < ((draws.len : Int)))) (
  Ix draws.a draws.len t 1 fun a =>
  ∃ vv : Sl, Cell w1 a (.slice vv.a vv.len vv.cap) ∧
  (64 : Int) ≠ 0 ∧ Ar .i64 (Int.tdiv ((vv.len : Int)) 64) fun z =>
  Ar .i64 (1 + z) fun z_1 =>
  Ar .i64 (n + z_1) fun z_2 =>
  If (decide (z_2 > 1000)) (
  K true w1) (
  Ar .i64 (t + 1) fun z_3 =>
  ∃ m1, m1 < m0 ∧ I1 m1 z_2 z_3 w1)) (
  ∃ I0 : Nat → Int → Int → World → Prop, (∃ m, I0 m n 0 w1) ∧ ∀ (_ : Env) (m0_1 : Nat) (n_1 : Int) (t_1 : Int) (w2 : World), I0 m0_1 n_1 t_1 w2 →
  If (decide (t_1 < ((l.len : Int)))) (
  ∃ S : World → Prop, S (drewW w2) ∧
  Ix l.a l.len t_1 8 fun a_1 =>
  ∃ vv_1 : Sl, Held S ((a_1.add 3).add 3) (.slice vv_1.a vv_1.len vv_1.cap) ∧
  (64 : Int) ≠ 0 ∧ Ar .i64 (Int.tdiv ((vv_1.len : Int)) 64) fun z_4 =>
  Ar .i64 (1 + z_4) fun z_5 =>
  Ix l.a l.len t_1 8 fun a_2 =>
  ∃ vv_2 : Sl, Held S ((a_2.add 3).add 4) (.slice vv_2.a vv_2.len vv_2.cap) ∧
  Ar .i64 (z_5 + ((vv_2.len : Int))) fun z_6 =>
  Ar .i64 (n_1 + z_6) fun z_7 =>
  If (decide (z_7 > 4000)) (
  K true ((drewW w2))) (
  Ar .i64 (t_1 + 1) fun z_8 =>
  ∃ m1_1, m1_1 < m0_1 ∧ I0 m1_1 z_7 z_8 ((drewW w2)))) (
  K false w2))
def A_law09_heavy : Ann := (.seq .nil (.seq .nil (.seq (.seq .nil (.block (.loop [(5, .int .i64), (10, .int .i64)] 33553520 (.seq .nil (.seq (.cond .nil .nil) (.seq (.block (.seq .nil (.seq .nil (.seq .nil (.cond (.seq .nil .nil) .nil))))) .nil)))))) (.seq (.seq .nil (.block (.loop [(5, .int .i64), (27, .int .i64)] 4503599493152944 (.seq .nil (.seq (.cond .nil .nil) (.seq (.block (.seq .nil (.seq (.draw (.take 0 (.take 1 (.take 2 (.take 3 (.take 4 (.take 5 (.take 6 (.take 7 (.take 8 (.take 9 (.take 10 (.take 11 (.take 12 (.take 13 (.take 14 (.take 15 (.take 16 (.take 17 (.take 18 (.take 19 .fin))))))))))))))))))))) (.seq .nil (.cond (.seq .nil .nil) .nil))))) .nil)))))) (.seq .nil .nil)))))
theorem S_law09_heavy {draws : Sl} {l : Sl} {w : World} {K : Bool → World → Prop} (h : F_law09_heavy draws l w K) : C_law09_heavy draws l w K := by
  have h1 : wpc Try.prog A_law09_heavy (Try.f35.body.getD .skip) (retK Try.prog [.one (.bool)] Try.f35.results.toList K) (argEnv [.slice draws.a draws.len draws.cap, .slice l.a l.len l.cap]) w := cast (by kernel_rfl : F_law09_heavy draws l w K = wpc Try.prog A_law09_heavy (Try.f35.body.getD .skip) (retK Try.prog [.one (.bool)] Try.f35.results.toList K) (argEnv [.slice draws.a draws.len draws.cap, .slice l.a l.len l.cap]) w) h
  have h2 : chk Try.prog Try.f35.ntmps A_law09_heavy (Try.f35.body.getD .skip) = true := by kernel_rfl
  have h4 : Nat.ble (List.length (α := Value) [.slice draws.a draws.len draws.cap, .slice l.a l.len l.cap]) Try.f35.ntmps = true := by kernel_rfl
  have h5 : Try.f35.body = some (Try.f35.body.getD .skip) := by kernel_rfl
  have h6 := @fn_sound Try.prog 35 Try.f35 (Try.f35.body.getD .skip) A_law09_heavy [.slice draws.a draws.len draws.cap, .slice l.a l.len l.cap] [.one (.bool)] K w Try.func35 h5 h2 h4 h1
  exact cast (by kernel_rfl : callK Try.prog 35 (List.toArray (α := Value) [.slice draws.a draws.len draws.cap, .slice l.a l.len l.cap]) [.one (.bool)] K w = C_law09_heavy draws l w K) h6

def F_law09_RegsRise (limit : Int) (l : Sl) (w : World) (K : Bool → World → Prop) : Prop :=
  C_law09_heavy ⟨none, 0, 0⟩ l w fun r w1 =>
  If r (
  C_law09_known  w1 fun r_1 w2 =>
  K r_1 w2) (
  C_disk_New 8 w1 fun r0_1 r1 w3 =>
  C_regs_New r0_1 limit ⟨none, 0, 0⟩ w3 fun r0_2 r1_1 w4 =>
  ∃ J1 : World → Prop, (
  If (Option.isNone r0_1) (
  K false w4) (
  If (Option.isNone r0_2) (
  K false w4) (
  If (r1 != 0) (
  K false w4) (
  If (r1_1 != 0) (
  K false w4) (
  J1 w4))))) ∧ ∀ (_ : Env) (w5 : World), J1 w5 →
  ∃ I0 : Nat → Int → Int → Int → World → Prop, (∃ m, I0 m 0 0 0 w5) ∧ ∀ (_ : Env) (m0 : Nat) (top : Int) (counts : Int) (t : Int) (w6 : World), I0 m0 top counts t w6 →
  If (decide (t < ((l.len : Int)))) (
  ∃ J0 : Int → Int → World → Prop, (
  Ix l.a l.len t 8 fun a =>
  ∃ vv : Int, Cell w6 a (.int .i64 vv) ∧
  If (vv == 1) (
  C_regs_Regs_Reserve r0_2 w6 fun r0_3 r1_2 w7 =>
  If (r1_2 == 0) (
  Ar .u64 (top + 1) fun z =>
  If (r0_3 != z) (
  K false w7) (
  If (decide (r0_3 > limit)) (
  K false w7) (
  J0 r0_3 counts w7))) (
  J0 top counts w7)) (
  If (vv == 2) (
  Ix l.a l.len t 8 fun a_1 =>
  ∃ vv_1 : Int, Cell w6 (a_1.add 1) (.int .u64 vv_1) ∧
  C_regs_Regs_Advance r0_2 vv_1 w6 fun r_2 w8 =>
  If (r_2 == 0) (
  Ix l.a l.len t 8 fun a_2 =>
  ∃ vv_2 : Int, Cell w8 (a_2.add 1) (.int .u64 vv_2) ∧
  If (decide (vv_2 ≤ counts)) (
  K false w8) (
  Ix l.a l.len t 8 fun a_3 =>
  ∃ vv_3 : Int, Cell w8 (a_3.add 1) (.int .u64 vv_3) ∧
  If (decide (vv_3 > top)) (
  K false w8) (
  Ix l.a l.len t 8 fun a_4 =>
  ∃ vv_4 : Int, Cell w8 (a_4.add 1) (.int .u64 vv_4) ∧
  J0 top vv_4 w8))) (
  J0 top counts w8)) (
  If (vv == 3) (
  Ix l.a l.len t 8 fun a_5 =>
  ∃ vv_5 : Int, Cell w6 (a_5.add 2) (.int .i64 vv_5) ∧
  C_disk_Disk_Fail r0_1 vv_5 w6 fun w9 =>
  J0 top counts w9) (
  If (vv == 4) (
  Ix l.a l.len t 8 fun a_6 =>
  ∃ vv_6 : Int, Cell w6 (a_6.add 2) (.int .i64 vv_6) ∧
  C_disk_Disk_Cut r0_1 vv_6 w6 fun w10 =>
  J0 top counts w10) (
  Ix l.a l.len t 8 fun a_7 =>
  ∃ vv_7 : Sl, Cell w6 ((a_7.add 3).add 4) (.slice vv_7.a vv_7.len vv_7.cap) ∧
  C_disk_Disk_Crash r0_1 vv_7 w6 fun r_3 w11 =>
  If (r_3 != 0) (
  K false w11) (
  J0 top counts w11)))))) ∧ ∀ (_ : Env) (top_1 : Int) (counts_1 : Int) (w12 : World), J0 top_1 counts_1 w12 →
  C_regs_Regs_Reserved r0_2 w12 fun r_4 w13 =>
  If (r_4 != top_1) (
  K false w13) (
  C_regs_Regs_Committed r0_2 w13 fun r_5 w14 =>
  If (r_5 != counts_1) (
  K false w14) (
  Ar .i64 (t + 1) fun z_1 =>
  ∃ m1, m1 < m0 ∧ I0 m1 top_1 counts_1 z_1 w14))) (
  C_law09_known  w6 fun r_6 w15 =>
  K r_6 w15))
def A_law09_RegsRise : Ann := (.seq .nil (.seq (.seq .nil (.cond (.seq .nil .nil) .nil)) (.seq .nil (.seq .nil (.join [] 2198889037840 (.seq .nil (.cond (.seq .nil .nil) .nil)) (.seq .nil (.seq (.seq .nil (.block (.loop [(9, .int .u64), (10, .int .u64), (43, .int .i64)] 696898287454081973172991196011465204055568 (.seq .nil (.seq (.cond .nil .nil) (.seq (.block (.seq .nil (.join [(9, .int .u64), (10, .int .u64)] 340282366920938463463374537063024047632 (.seq .nil (.block (.seq .nil (.cond (.seq .nil (.seq .nil (.cond (.seq (.seq .nil (.cond (.seq .nil .nil) .nil)) .nil) .nil))) (.seq .nil (.cond (.seq .nil (.cond (.seq (.seq .nil (.cond (.seq .nil .nil) .nil)) .nil) .nil)) (.seq .nil (.cond .nil (.seq .nil (.cond .nil (.seq .nil (.cond (.seq .nil .nil) .nil)))))))))))) (.seq .nil (.cond (.seq .nil .nil) .nil))))) .nil)))))) (.seq .nil .nil))))))))
theorem S_law09_RegsRise {limit : Int} {l : Sl} {w : World} {K : Bool → World → Prop} (h : F_law09_RegsRise limit l w K) : C_law09_RegsRise limit l w K := by
  have h1 : wpc Try.prog A_law09_RegsRise (Try.f8.body.getD .skip) (retK Try.prog [.one (.bool)] Try.f8.results.toList K) (argEnv [.int .u64 limit, .slice l.a l.len l.cap]) w := cast (by kernel_rfl : F_law09_RegsRise limit l w K = wpc Try.prog A_law09_RegsRise (Try.f8.body.getD .skip) (retK Try.prog [.one (.bool)] Try.f8.results.toList K) (argEnv [.int .u64 limit, .slice l.a l.len l.cap]) w) h
  have h2 : chk Try.prog Try.f8.ntmps A_law09_RegsRise (Try.f8.body.getD .skip) = true := by kernel_rfl
  have h4 : Nat.ble (List.length (α := Value) [.int .u64 limit, .slice l.a l.len l.cap]) Try.f8.ntmps = true := by kernel_rfl
  have h5 : Try.f8.body = some (Try.f8.body.getD .skip) := by kernel_rfl
  have h6 := @fn_sound Try.prog 8 Try.f8 (Try.f8.body.getD .skip) A_law09_RegsRise [.int .u64 limit, .slice l.a l.len l.cap] [.one (.bool)] K w Try.func8 h5 h2 h4 h1
  exact cast (by kernel_rfl : callK Try.prog 8 (List.toArray (α := Value) [.int .u64 limit, .slice l.a l.len l.cap]) [.one (.bool)] K w = C_law09_RegsRise limit l w K) h6

def F_disk_Disk_Down (d : Option Addr) (w : World) (K : Bool → World → Prop) : Prop :=
  If (!(Option.isNone d)) (
  Nn d fun a =>
  ∃ vv : Bool, Cell w (a.add 6) (.bool vv) ∧
  K vv w) (
  K false w)
def A_disk_Disk_Down : Ann := (.seq .nil (.seq .nil .nil))
theorem S_disk_Disk_Down {d : Option Addr} {w : World} {K : Bool → World → Prop} (h : F_disk_Disk_Down d w K) : C_disk_Disk_Down d w K := by
  have h1 : wpc Try.prog A_disk_Disk_Down (Try.f32.body.getD .skip) (retK Try.prog [.one (.bool)] Try.f32.results.toList K) (argEnv [.pointer d]) w := cast (by kernel_rfl : F_disk_Disk_Down d w K = wpc Try.prog A_disk_Disk_Down (Try.f32.body.getD .skip) (retK Try.prog [.one (.bool)] Try.f32.results.toList K) (argEnv [.pointer d]) w) h
  have h2 : chk Try.prog Try.f32.ntmps A_disk_Disk_Down (Try.f32.body.getD .skip) = true := by kernel_rfl
  have h4 : Nat.ble (List.length (α := Value) [.pointer d]) Try.f32.ntmps = true := by kernel_rfl
  have h5 : Try.f32.body = some (Try.f32.body.getD .skip) := by kernel_rfl
  have h6 := @fn_sound Try.prog 32 Try.f32 (Try.f32.body.getD .skip) A_disk_Disk_Down [.pointer d] [.one (.bool)] K w Try.func32 h5 h2 h4 h1
  exact cast (by kernel_rfl : callK Try.prog 32 (List.toArray (α := Value) [.pointer d]) [.one (.bool)] K w = C_disk_Disk_Down d w K) h6

def F_ref08_New (blocks : Int) (w : World) (K : Option Addr → World → Prop) : Prop :=
  NewW w (.cells [.slice none 0 0, .slice none 0 0, .slice none 0 0, .int .u64 0, .int .i64 0, .int .i64 0, .bool false].toArray 69) fun b w1 =>
  List.length (α := Value) [.slice none 0 0, .slice none 0 0, .slice none 0 0, .int .u64 0, .int .i64 0, .int .i64 (-1), .bool false] = 7 ∧ StN w1 (Addr.mk b 0 none) [.slice none 0 0, .slice none 0 0, .slice none 0 0, .int .u64 0, .int .i64 0, .int .i64 (-1), .bool false] fun w2 =>
  ∃ I0 : Nat → Int → World → Prop, (∃ m, I0 m 0 w2) ∧ ∀ (_ : Env) (m0 : Nat) (i : Int) (w3 : World), I0 m0 i w3 →
  If (decide (i < blocks)) (
  ∃ S : World → Prop, S (drewW w3) ∧
  ∃ vv : Sl, Held S (Addr.mk b 0 none) (.slice vv.a vv.len vv.cap) ∧
  MkW (drewW w3) 5 [.int .u8 0] 1 256 256 fun s w4 =>
  S w4 ∧
  NewW w4 (.cells [.slice s.a s.len s.cap].toArray 23) fun b_1 w5 =>
  S w5 ∧
  AppW Try.prog 49 49 vv (.slice (some (Addr.mk b_1 0 none)) 1 1) (fun s_1 w6 =>
  S w6 ∧
  St1 w6 (Addr.mk b 0 none) (.slice s_1.a s_1.len s_1.cap) fun w7 =>
  ∃ S : World → Prop, S (drewW w7) ∧
  ∃ vv_1 : Sl, Held S ((Addr.mk b 0 none).add 1) (.slice vv_1.a vv_1.len vv_1.cap) ∧
  MkW (drewW w7) 5 [.int .u8 0] 1 256 256 fun s_2 w8 =>
  S w8 ∧
  NewW w8 (.cells [.slice s_2.a s_2.len s_2.cap].toArray 23) fun b_2 w9 =>
  S w9 ∧
  AppW Try.prog 49 49 vv_1 (.slice (some (Addr.mk b_2 0 none)) 1 1) (fun s_3 w10 =>
  S w10 ∧
  St1 w10 ((Addr.mk b 0 none).add 1) (.slice s_3.a s_3.len s_3.cap) fun w11 =>
  Ar .i64 (i + 1) fun z =>
  ∃ m1, m1 < m0 ∧ I0 m1 z w11) w9) w5) (
  K (some (Addr.mk b 0 none)) w3)
def A_ref08_New : Ann := (.seq .nil (.seq .nil (.seq (.seq .nil (.block (.loop [(4, .int .i64)] 8388560 (.seq (.seq .nil (.cond .nil .nil)) (.seq (.block (.seq (.draw (.take 0 (.take 1 (.one 2 (.one 3 (.one 4 (.take 5 (.last 6)))))))) (.draw (.take 0 (.take 1 (.one 2 (.one 3 (.one 4 (.take 5 (.last 6)))))))))) .nil))))) (.seq .nil .nil))))
theorem S_ref08_New {blocks : Int} {w : World} {K : Option Addr → World → Prop} (h : F_ref08_New blocks w K) : C_ref08_New blocks w K := by
  have h1 : wpc Try.prog A_ref08_New (Try.f38.body.getD .skip) (retK Try.prog [.one (.ptr)] Try.f38.results.toList K) (argEnv [.int .i64 blocks]) w := cast (by kernel_rfl : F_ref08_New blocks w K = wpc Try.prog A_ref08_New (Try.f38.body.getD .skip) (retK Try.prog [.one (.ptr)] Try.f38.results.toList K) (argEnv [.int .i64 blocks]) w) h
  have h2 : chk Try.prog Try.f38.ntmps A_ref08_New (Try.f38.body.getD .skip) = true := by kernel_rfl
  have h4 : Nat.ble (List.length (α := Value) [.int .i64 blocks]) Try.f38.ntmps = true := by kernel_rfl
  have h5 : Try.f38.body = some (Try.f38.body.getD .skip) := by kernel_rfl
  have h6 := @fn_sound Try.prog 38 Try.f38 (Try.f38.body.getD .skip) A_ref08_New [.int .i64 blocks] [.one (.ptr)] K w Try.func38 h5 h2 h4 h1
  exact cast (by kernel_rfl : callK Try.prog 38 (List.toArray (α := Value) [.int .i64 blocks]) [.one (.ptr)] K w = C_ref08_New blocks w K) h6

def F_law08_full (x : Int) (w : World) (K : Sl → World → Prop) : Prop :=
  MkW w 5 [.int .u8 0] 1 256 256 fun s w1 =>
  ∃ I0 : Nat → Int → World → Prop, (∃ m, I0 m 0 w1) ∧ ∀ (_ : Env) (m0 : Nat) (t : Int) (w2 : World), I0 m0 t w2 →
  If (decide (t < ((s.len : Int)))) (
  Ix s.a s.len t 1 fun a =>
  St1 w2 a (.int .u8 x) fun w3 =>
  Ar .i64 (t + 1) fun z =>
  ∃ m1, m1 < m0 ∧ I0 m1 z w3) (
  K s w2)
def A_law08_full : Ann := (.seq .nil (.seq .nil (.seq (.seq .nil (.block (.loop [(8, .int .i64)] 65296 (.seq .nil (.seq (.cond .nil .nil) (.seq (.block (.seq .nil .nil)) .nil)))))) (.seq .nil .nil))))
theorem S_law08_full {x : Int} {w : World} {K : Sl → World → Prop} (h : F_law08_full x w K) : C_law08_full x w K := by
  have h1 : wpc Try.prog A_law08_full (Try.f14.body.getD .skip) (retK Try.prog [.one (.sl)] Try.f14.results.toList K) (argEnv [.int .u8 x]) w := cast (by kernel_rfl : F_law08_full x w K = wpc Try.prog A_law08_full (Try.f14.body.getD .skip) (retK Try.prog [.one (.sl)] Try.f14.results.toList K) (argEnv [.int .u8 x]) w) h
  have h2 : chk Try.prog Try.f14.ntmps A_law08_full (Try.f14.body.getD .skip) = true := by kernel_rfl
  have h4 : Nat.ble (List.length (α := Value) [.int .u8 x]) Try.f14.ntmps = true := by kernel_rfl
  have h5 : Try.f14.body = some (Try.f14.body.getD .skip) := by kernel_rfl
  have h6 := @fn_sound Try.prog 14 Try.f14 (Try.f14.body.getD .skip) A_law08_full [.int .u8 x] [.one (.sl)] K w Try.func14 h5 h2 h4 h1
  exact cast (by kernel_rfl : callK Try.prog 14 (List.toArray (α := Value) [.int .u8 x]) [.one (.sl)] K w = C_law08_full x w K) h6

def F_disk_Disk_has (d : Option Addr) (i : Int) (w : World) (K : Bool → World → Prop) : Prop :=
  If (decide (i ≥ 0)) (
  Nn d fun a =>
  ∃ vv : Sl, Cell w a (.slice vv.a vv.len vv.cap) ∧
  K (decide (i < ((vv.len : Int)))) w) (
  K false w)
def A_disk_Disk_has : Ann := (.seq .nil (.seq .nil .nil))
theorem S_disk_Disk_has {d : Option Addr} {i : Int} {w : World} {K : Bool → World → Prop} (h : F_disk_Disk_has d i w K) : C_disk_Disk_has d i w K := by
  have h1 : wpc Try.prog A_disk_Disk_has (Try.f48.body.getD .skip) (retK Try.prog [.one (.bool)] Try.f48.results.toList K) (argEnv [.pointer d, .int .i64 i]) w := cast (by kernel_rfl : F_disk_Disk_has d i w K = wpc Try.prog A_disk_Disk_has (Try.f48.body.getD .skip) (retK Try.prog [.one (.bool)] Try.f48.results.toList K) (argEnv [.pointer d, .int .i64 i]) w) h
  have h2 : chk Try.prog Try.f48.ntmps A_disk_Disk_has (Try.f48.body.getD .skip) = true := by kernel_rfl
  have h4 : Nat.ble (List.length (α := Value) [.pointer d, .int .i64 i]) Try.f48.ntmps = true := by kernel_rfl
  have h5 : Try.f48.body = some (Try.f48.body.getD .skip) := by kernel_rfl
  have h6 := @fn_sound Try.prog 48 Try.f48 (Try.f48.body.getD .skip) A_disk_Disk_has [.pointer d, .int .i64 i] [.one (.bool)] K w Try.func48 h5 h2 h4 h1
  exact cast (by kernel_rfl : callK Try.prog 48 (List.toArray (α := Value) [.pointer d, .int .i64 i]) [.one (.bool)] K w = C_disk_Disk_has d i w K) h6

def F_disk_Disk_Write (d : Option Addr) (i : Int) (b : Sl) (w : World) (K : Int → World → Prop) : Prop :=
  If (Option.isNone d) (
  K 1 w) (
  ∃ J0 : World → Prop, (
  C_disk_Disk_has d i w fun r w1 =>
  If (!r) (
  K 2 w1) (
  If (((b.len : Int)) != 256) (
  K 2 w1) (
  J0 w1))) ∧ ∀ (_ : Env) (w2 : World), J0 w2 →
  C_disk_Disk_step d w2 fun r_1 w3 =>
  If (r_1 != 0) (
  K r_1 w3) (
  ∃ S : World → Prop, S (drewW w3) ∧
  Nn d fun a =>
  ∃ vv : Sl, Held S a (.slice vv.a vv.len vv.cap) ∧
  256 ≤ b.len ∧ Nn b.a fun a_1 =>
  ∃ l : List Int, l.length = 256 ∧ RowC (Held S) a_1 0 .u8 l ∧
  Ix vv.a vv.len i 256 fun a_2 =>
  List.length (α := Value) (List.map (Value.int .u8) l ++ []) = 256 ∧ StN (drewW w3) a_2 (List.map (Value.int .u8) l ++ []) fun w4 =>
  S w4 ∧
  ∃ S : World → Prop, S (drewW w4) ∧
  Nn d fun a_3 =>
  ∃ vv_1 : Sl, Held S (a_3.add 2) (.slice vv_1.a vv_1.len vv_1.cap) ∧
  256 ≤ b.len ∧ Nn b.a fun a_4 =>
  ∃ l_1 : List Int, l_1.length = 256 ∧ RowC (Held S) a_4 0 .u8 l_1 ∧
  List.length (α := Value) (List.map (Value.int .u8) l_1 ++ []) = 256 ∧
  List.length (α := Value) ((.int .i64 i : Value) :: ((List.map (Value.int .u8) l_1 ++ []) ++ [])) = 257 ∧
  NewW (drewW w4) (.cells (((.int .i64 i : Value) :: ((List.map (Value.int .u8) l_1 ++ []) ++ [])) ++ []).toArray 87) fun b_1 w5 =>
  S w5 ∧
  AppW Try.prog 81 81 vv_1 (.slice (some (Addr.mk b_1 0 none)) 1 1) (fun s w6 =>
  S w6 ∧
  Nn d fun a_5 =>
  St1 w6 (a_5.add 2) (.slice s.a s.len s.cap) fun w7 =>
  K 0 w7) w5))
def A_disk_Disk_Write : Ann := (.seq .nil (.seq (.seq .nil (.cond (.seq .nil .nil) .nil)) (.join [] 523328 (.seq .nil (.cond (.seq .nil .nil) .nil)) (.seq (.seq .nil (.seq .nil (.cond (.seq .nil .nil) .nil))) (.seq (.draw (.take 0 (.take 1 (.take 2 (.take 3 (.take 4 (.take 5 (.take 6 (.take 7 (.take 8 (.one 9 .fin))))))))))) (.seq (.draw (.take 0 (.take 1 (.take 2 (.take 3 (.take 4 (.take 5 (.take 6 (.take 7 (.take 8 (.take 9 (.one 10 (.one 11 (.take 12 (.take 13 (.last 14)))))))))))))))) (.seq .nil .nil)))))))
theorem S_disk_Disk_Write {d : Option Addr} {i : Int} {b : Sl} {w : World} {K : Int → World → Prop} (h : F_disk_Disk_Write d i b w K) : C_disk_Disk_Write d i b w K := by
  have h1 : wpc Try.prog A_disk_Disk_Write (Try.f15.body.getD .skip) (retK Try.prog [.one (.int .i64)] Try.f15.results.toList K) (argEnv [.pointer d, .int .i64 i, .slice b.a b.len b.cap]) w := cast (by kernel_rfl : F_disk_Disk_Write d i b w K = wpc Try.prog A_disk_Disk_Write (Try.f15.body.getD .skip) (retK Try.prog [.one (.int .i64)] Try.f15.results.toList K) (argEnv [.pointer d, .int .i64 i, .slice b.a b.len b.cap]) w) h
  have h2 : chk Try.prog Try.f15.ntmps A_disk_Disk_Write (Try.f15.body.getD .skip) = true := by kernel_rfl
  have h4 : Nat.ble (List.length (α := Value) [.pointer d, .int .i64 i, .slice b.a b.len b.cap]) Try.f15.ntmps = true := by kernel_rfl
  have h5 : Try.f15.body = some (Try.f15.body.getD .skip) := by kernel_rfl
  have h6 := @fn_sound Try.prog 15 Try.f15 (Try.f15.body.getD .skip) A_disk_Disk_Write [.pointer d, .int .i64 i, .slice b.a b.len b.cap] [.one (.int .i64)] K w Try.func15 h5 h2 h4 h1
  exact cast (by kernel_rfl : callK Try.prog 15 (List.toArray (α := Value) [.pointer d, .int .i64 i, .slice b.a b.len b.cap]) [.one (.int .i64)] K w = C_disk_Disk_Write d i b w K) h6

def F_disk_Disk_Sync (d : Option Addr) (w : World) (K : Int → World → Prop) : Prop :=
  If (Option.isNone d) (
  K 1 w) (
  C_disk_Disk_step d w fun r w1 =>
  If (r != 0) (
  K r w1) (
  ∃ S : World → Prop, S (drewW w1) ∧
  Nn d fun a =>
  ∃ vv : Sl, Held S (a.add 1) (.slice vv.a vv.len vv.cap) ∧
  Nn d fun a_1 =>
  ∃ vv_1 : Sl, Held S a_1 (.slice vv_1.a vv_1.len vv_1.cap) ∧
  CopyW Try.prog 80 80 vv (.slice vv_1.a vv_1.len vv_1.cap) (fun _z w2 =>
  S w2 ∧
  Nn d fun a_2 =>
  St1 w2 (a_2.add 2) (.slice none 0 0) fun w3 =>
  K 0 w3) (drewW w1)))
def A_disk_Disk_Sync : Ann := (.seq .nil (.seq (.seq .nil (.cond (.seq .nil .nil) .nil)) (.seq (.seq .nil (.seq .nil (.cond (.seq .nil .nil) .nil))) (.seq (.draw (.take 0 (.take 1 (.take 2 (.take 3 (.take 4 (.take 5 (.take 6 (.take 7 (.one 8 .fin)))))))))) (.seq .nil (.seq .nil .nil))))))
theorem S_disk_Disk_Sync {d : Option Addr} {w : World} {K : Int → World → Prop} (h : F_disk_Disk_Sync d w K) : C_disk_Disk_Sync d w K := by
  have h1 : wpc Try.prog A_disk_Disk_Sync (Try.f16.body.getD .skip) (retK Try.prog [.one (.int .i64)] Try.f16.results.toList K) (argEnv [.pointer d]) w := cast (by kernel_rfl : F_disk_Disk_Sync d w K = wpc Try.prog A_disk_Disk_Sync (Try.f16.body.getD .skip) (retK Try.prog [.one (.int .i64)] Try.f16.results.toList K) (argEnv [.pointer d]) w) h
  have h2 : chk Try.prog Try.f16.ntmps A_disk_Disk_Sync (Try.f16.body.getD .skip) = true := by kernel_rfl
  have h4 : Nat.ble (List.length (α := Value) [.pointer d]) Try.f16.ntmps = true := by kernel_rfl
  have h5 : Try.f16.body = some (Try.f16.body.getD .skip) := by kernel_rfl
  have h6 := @fn_sound Try.prog 16 Try.f16 (Try.f16.body.getD .skip) A_disk_Disk_Sync [.pointer d] [.one (.int .i64)] K w Try.func16 h5 h2 h4 h1
  exact cast (by kernel_rfl : callK Try.prog 16 (List.toArray (α := Value) [.pointer d]) [.one (.int .i64)] K w = C_disk_Disk_Sync d w K) h6

def F_disk_Disk_Read (d : Option Addr) (i : Int) (w : World) (K : Sl → Int → World → Prop) : Prop :=
  If (Option.isNone d) (
  K ⟨none, 0, 0⟩ 1 w) (
  C_disk_Disk_has d i w fun r w1 =>
  If (!r) (
  K ⟨none, 0, 0⟩ 2 w1) (
  Nn d fun a =>
  ∃ vv : Bool, Cell w1 (a.add 6) (.bool vv) ∧
  If vv (
  K ⟨none, 0, 0⟩ 81 w1) (
  Nn d fun a_1 =>
  ∃ vv_1 : Sl, Cell w1 a_1 (.slice vv_1.a vv_1.len vv_1.cap) ∧
  Ix vv_1.a vv_1.len i 256 fun a_2 =>
  ∃ l : List Int, l.length = 256 ∧ RowC (Cell w1) a_2 0 .u8 l ∧
  NewW w1 (.cells (List.replicate 256 (.int .u8 0)).toArray 85) fun b w2 =>
  List.length (α := Value) (List.map (Value.int .u8) l ++ []) = 256 ∧ StN w2 (Addr.mk b 0 none) (List.map (Value.int .u8) l ++ []) fun w3 =>
  Cut ⟨some (Addr.mk b 0 none), 256, 256⟩ 0 (((256 : Nat) : Int)) (((256 : Nat) : Int)) 1 fun s =>
  K s 0 w3)))
def A_disk_Disk_Read : Ann := (.seq .nil (.seq (.block (.seq .nil (.cond (.seq .nil .nil) (.seq .nil (.cond (.seq .nil .nil) (.seq .nil (.cond (.seq .nil .nil) .nil))))))) (.seq .nil (.seq .nil .nil))))
theorem S_disk_Disk_Read {d : Option Addr} {i : Int} {w : World} {K : Sl → Int → World → Prop} (h : F_disk_Disk_Read d i w K) : C_disk_Disk_Read d i w K := by
  have h1 : wpc Try.prog A_disk_Disk_Read (Try.f19.body.getD .skip) (retK Try.prog [.one (.sl), .one (.int .i64)] Try.f19.results.toList K) (argEnv [.pointer d, .int .i64 i]) w := cast (by kernel_rfl : F_disk_Disk_Read d i w K = wpc Try.prog A_disk_Disk_Read (Try.f19.body.getD .skip) (retK Try.prog [.one (.sl), .one (.int .i64)] Try.f19.results.toList K) (argEnv [.pointer d, .int .i64 i]) w) h
  have h2 : chk Try.prog Try.f19.ntmps A_disk_Disk_Read (Try.f19.body.getD .skip) = true := by kernel_rfl
  have h4 : Nat.ble (List.length (α := Value) [.pointer d, .int .i64 i]) Try.f19.ntmps = true := by kernel_rfl
  have h5 : Try.f19.body = some (Try.f19.body.getD .skip) := by kernel_rfl
  have h6 := @fn_sound Try.prog 19 Try.f19 (Try.f19.body.getD .skip) A_disk_Disk_Read [.pointer d, .int .i64 i] [.one (.sl), .one (.int .i64)] K w Try.func19 h5 h2 h4 h1
  exact cast (by kernel_rfl : callK Try.prog 19 (List.toArray (α := Value) [.pointer d, .int .i64 i]) [.one (.sl), .one (.int .i64)] K w = C_disk_Disk_Read d i w K) h6

def F_disk_Disk_Fork (d : Option Addr) (w : World) (K : Option Addr → World → Prop) : Prop :=
  If (Option.isNone d) (
  K none w) (
  Nn d fun a =>
  ∃ c : Sl, Cell w a (.slice c.a c.len c.cap) ∧
  ∃ c_1 : Sl, Cell w (a.add 1) (.slice c_1.a c_1.len c_1.cap) ∧
  ∃ c_2 : Sl, Cell w (a.add 2) (.slice c_2.a c_2.len c_2.cap) ∧
  ∃ c_3 : Int, Cell w (a.add 3) (.int .u64 c_3) ∧
  ∃ c_4 : Int, Cell w (a.add 4) (.int .i64 c_4) ∧
  ∃ c_5 : Int, Cell w (a.add 5) (.int .i64 c_5) ∧
  ∃ c_6 : Bool, Cell w (a.add 6) (.bool c_6) ∧
  NewW w (.cells [.slice none 0 0, .slice none 0 0, .slice none 0 0, .int .u64 0, .int .i64 0, .int .i64 0, .bool false].toArray 83) fun b w1 =>
  List.length (α := Value) [.slice c.a c.len c.cap, .slice c_1.a c_1.len c_1.cap, .slice c_2.a c_2.len c_2.cap, .int .u64 c_3, .int .i64 c_4, .int .i64 c_5, .bool c_6] = 7 ∧ StN w1 (Addr.mk b 0 none) [.slice c.a c.len c.cap, .slice c_1.a c_1.len c_1.cap, .slice c_2.a c_2.len c_2.cap, .int .u64 c_3, .int .i64 c_4, .int .i64 c_5, .bool c_6] fun w2 =>
  NewW w2 (.cells [].toArray 85) fun b_1 w3 =>
  Nn d fun a_1 =>
  ∃ vv : Sl, Cell w3 a_1 (.slice vv.a vv.len vv.cap) ∧
  AppW Try.prog 80 80 ⟨some (Addr.mk b_1 0 none), 0, 0⟩ (.slice vv.a vv.len vv.cap) (fun s w4 =>
  St1 w4 (Addr.mk b 0 none) (.slice s.a s.len s.cap) fun w5 =>
  NewW w5 (.cells [].toArray 85) fun b_2 w6 =>
  Nn d fun a_2 =>
  ∃ vv_1 : Sl, Cell w6 (a_2.add 1) (.slice vv_1.a vv_1.len vv_1.cap) ∧
  AppW Try.prog 80 80 ⟨some (Addr.mk b_2 0 none), 0, 0⟩ (.slice vv_1.a vv_1.len vv_1.cap) (fun s_1 w7 =>
  St1 w7 ((Addr.mk b 0 none).add 1) (.slice s_1.a s_1.len s_1.cap) fun w8 =>
  NewW w8 (.cells [].toArray 87) fun b_3 w9 =>
  Nn d fun a_3 =>
  ∃ vv_2 : Sl, Cell w9 (a_3.add 2) (.slice vv_2.a vv_2.len vv_2.cap) ∧
  AppW Try.prog 81 81 ⟨some (Addr.mk b_3 0 none), 0, 0⟩ (.slice vv_2.a vv_2.len vv_2.cap) (fun s_2 w10 =>
  St1 w10 ((Addr.mk b 0 none).add 2) (.slice s_2.a s_2.len s_2.cap) fun w11 =>
  K (some (Addr.mk b 0 none)) w11) w9) w6) w3)
def A_disk_Disk_Fork : Ann := (.seq .nil (.seq (.seq .nil (.cond (.seq .nil .nil) .nil)) (.seq .nil (.seq .nil (.seq .nil (.seq .nil (.seq .nil .nil)))))))
theorem S_disk_Disk_Fork {d : Option Addr} {w : World} {K : Option Addr → World → Prop} (h : F_disk_Disk_Fork d w K) : C_disk_Disk_Fork d w K := by
  have h1 : wpc Try.prog A_disk_Disk_Fork (Try.f33.body.getD .skip) (retK Try.prog [.one (.ptr)] Try.f33.results.toList K) (argEnv [.pointer d]) w := cast (by kernel_rfl : F_disk_Disk_Fork d w K = wpc Try.prog A_disk_Disk_Fork (Try.f33.body.getD .skip) (retK Try.prog [.one (.ptr)] Try.f33.results.toList K) (argEnv [.pointer d]) w) h
  have h2 : chk Try.prog Try.f33.ntmps A_disk_Disk_Fork (Try.f33.body.getD .skip) = true := by kernel_rfl
  have h4 : Nat.ble (List.length (α := Value) [.pointer d]) Try.f33.ntmps = true := by kernel_rfl
  have h5 : Try.f33.body = some (Try.f33.body.getD .skip) := by kernel_rfl
  have h6 := @fn_sound Try.prog 33 Try.f33 (Try.f33.body.getD .skip) A_disk_Disk_Fork [.pointer d] [.one (.ptr)] K w Try.func33 h5 h2 h4 h1
  exact cast (by kernel_rfl : callK Try.prog 33 (List.toArray (α := Value) [.pointer d]) [.one (.ptr)] K w = C_disk_Disk_Fork d w K) h6

def F_disk_Disk_Firm (d : Option Addr) (i : Int) (w : World) (K : Sl → Int → World → Prop) : Prop :=
  If (Option.isNone d) (
  K ⟨none, 0, 0⟩ 1 w) (
  C_disk_Disk_has d i w fun r w1 =>
  If (!r) (
  K ⟨none, 0, 0⟩ 2 w1) (
  Nn d fun a =>
  ∃ vv : Sl, Cell w1 (a.add 1) (.slice vv.a vv.len vv.cap) ∧
  Ix vv.a vv.len i 256 fun a_1 =>
  ∃ l : List Int, l.length = 256 ∧ RowC (Cell w1) a_1 0 .u8 l ∧
  NewW w1 (.cells (List.replicate 256 (.int .u8 0)).toArray 85) fun b w2 =>
  List.length (α := Value) (List.map (Value.int .u8) l ++ []) = 256 ∧ StN w2 (Addr.mk b 0 none) (List.map (Value.int .u8) l ++ []) fun w3 =>
  Cut ⟨some (Addr.mk b 0 none), 256, 256⟩ 0 (((256 : Nat) : Int)) (((256 : Nat) : Int)) 1 fun s =>
  K s 0 w3))
def A_disk_Disk_Firm : Ann := (.seq .nil (.seq (.seq .nil (.cond (.seq .nil .nil) .nil)) (.seq (.seq .nil (.cond (.seq .nil .nil) .nil)) (.seq .nil (.seq .nil .nil)))))
theorem S_disk_Disk_Firm {d : Option Addr} {i : Int} {w : World} {K : Sl → Int → World → Prop} (h : F_disk_Disk_Firm d i w K) : C_disk_Disk_Firm d i w K := by
  have h1 : wpc Try.prog A_disk_Disk_Firm (Try.f34.body.getD .skip) (retK Try.prog [.one (.sl), .one (.int .i64)] Try.f34.results.toList K) (argEnv [.pointer d, .int .i64 i]) w := cast (by kernel_rfl : F_disk_Disk_Firm d i w K = wpc Try.prog A_disk_Disk_Firm (Try.f34.body.getD .skip) (retK Try.prog [.one (.sl), .one (.int .i64)] Try.f34.results.toList K) (argEnv [.pointer d, .int .i64 i]) w) h
  have h2 : chk Try.prog Try.f34.ntmps A_disk_Disk_Firm (Try.f34.body.getD .skip) = true := by kernel_rfl
  have h4 : Nat.ble (List.length (α := Value) [.pointer d, .int .i64 i]) Try.f34.ntmps = true := by kernel_rfl
  have h5 : Try.f34.body = some (Try.f34.body.getD .skip) := by kernel_rfl
  have h6 := @fn_sound Try.prog 34 Try.f34 (Try.f34.body.getD .skip) A_disk_Disk_Firm [.pointer d, .int .i64 i] [.one (.sl), .one (.int .i64)] K w Try.func34 h5 h2 h4 h1
  exact cast (by kernel_rfl : callK Try.prog 34 (List.toArray (α := Value) [.pointer d, .int .i64 i]) [.one (.sl), .one (.int .i64)] K w = C_disk_Disk_Firm d i w K) h6

def F_ref01_Same (a : Sl) (b : Sl) (w : World) (K : Bool → World → Prop) : Prop :=
  StrC (Cell w) a fun str =>
  StrC (Cell w) b fun str_1 =>
  K (ByteArray.toList str == ByteArray.toList str_1) w
def A_ref01_Same : Ann := (.seq .nil (.seq .nil .nil))
theorem S_ref01_Same {a : Sl} {b : Sl} {w : World} {K : Bool → World → Prop} (h : F_ref01_Same a b w K) : C_ref01_Same a b w K := by
  have h1 : wpc Try.prog A_ref01_Same (Try.f41.body.getD .skip) (retK Try.prog [.one (.bool)] Try.f41.results.toList K) (argEnv [.slice a.a a.len a.cap, .slice b.a b.len b.cap]) w := cast (by kernel_rfl : F_ref01_Same a b w K = wpc Try.prog A_ref01_Same (Try.f41.body.getD .skip) (retK Try.prog [.one (.bool)] Try.f41.results.toList K) (argEnv [.slice a.a a.len a.cap, .slice b.a b.len b.cap]) w) h
  have h2 : chk Try.prog Try.f41.ntmps A_ref01_Same (Try.f41.body.getD .skip) = true := by kernel_rfl
  have h4 : Nat.ble (List.length (α := Value) [.slice a.a a.len a.cap, .slice b.a b.len b.cap]) Try.f41.ntmps = true := by kernel_rfl
  have h5 : Try.f41.body = some (Try.f41.body.getD .skip) := by kernel_rfl
  have h6 := @fn_sound Try.prog 41 Try.f41 (Try.f41.body.getD .skip) A_ref01_Same [.slice a.a a.len a.cap, .slice b.a b.len b.cap] [.one (.bool)] K w Try.func41 h5 h2 h4 h1
  exact cast (by kernel_rfl : callK Try.prog 41 (List.toArray (α := Value) [.slice a.a a.len a.cap, .slice b.a b.len b.cap]) [.one (.bool)] K w = C_ref01_Same a b w K) h6

def F_disk_Disk_Foreign (d : Option Addr) (i : Int) (atv : Int) (b : Sl) (w : World) (K : Int → World → Prop) : Prop :=
  If (Option.isNone d) (
  K 1 w) (
  ∃ J0 : World → Prop, (
  C_disk_Disk_has d i w fun r w1 =>
  If (!r) (
  K 2 w1) (
  If (decide (atv < 0)) (
  K 2 w1) (
  If (decide (atv > 256)) (
  K 2 w1) (
  Ar .i64 (256 - atv) fun z =>
  If (decide (((b.len : Int)) > z)) (
  K 2 w1) (
  J0 w1))))) ∧ ∀ (_ : Env) (w2 : World), J0 w2 →
  Nn d fun a =>
  ∃ vv : Sl, Cell w2 a (.slice vv.a vv.len vv.cap) ∧
  Ix vv.a vv.len i 256 fun a_1 =>
  Cut ⟨some a_1, 256, 256⟩ atv (((256 : Nat) : Int)) (((256 : Nat) : Int)) 1 fun s =>
  CopyW Try.prog 23 23 s (.slice b.a b.len b.cap) (fun _z_1 w3 =>
  Nn d fun a_2 =>
  ∃ vv_1 : Sl, Cell w3 (a_2.add 1) (.slice vv_1.a vv_1.len vv_1.cap) ∧
  Ix vv_1.a vv_1.len i 256 fun a_3 =>
  Cut ⟨some a_3, 256, 256⟩ atv (((256 : Nat) : Int)) (((256 : Nat) : Int)) 1 fun s_1 =>
  CopyW Try.prog 23 23 s_1 (.slice b.a b.len b.cap) (fun _z_2 w4 =>
  K 0 w4) w3) w2)
def A_disk_Disk_Foreign : Ann := (.seq .nil (.seq (.seq .nil (.cond (.seq .nil .nil) .nil)) (.join [] 1073740032 (.seq .nil (.cond (.seq .nil .nil) .nil)) (.seq .nil (.seq .nil (.seq .nil .nil))))))
theorem S_disk_Disk_Foreign {d : Option Addr} {i : Int} {atv : Int} {b : Sl} {w : World} {K : Int → World → Prop} (h : F_disk_Disk_Foreign d i atv b w K) : C_disk_Disk_Foreign d i atv b w K := by
  have h1 : wpc Try.prog A_disk_Disk_Foreign (Try.f42.body.getD .skip) (retK Try.prog [.one (.int .i64)] Try.f42.results.toList K) (argEnv [.pointer d, .int .i64 i, .int .i64 atv, .slice b.a b.len b.cap]) w := cast (by kernel_rfl : F_disk_Disk_Foreign d i atv b w K = wpc Try.prog A_disk_Disk_Foreign (Try.f42.body.getD .skip) (retK Try.prog [.one (.int .i64)] Try.f42.results.toList K) (argEnv [.pointer d, .int .i64 i, .int .i64 atv, .slice b.a b.len b.cap]) w) h
  have h2 : chk Try.prog Try.f42.ntmps A_disk_Disk_Foreign (Try.f42.body.getD .skip) = true := by kernel_rfl
  have h4 : Nat.ble (List.length (α := Value) [.pointer d, .int .i64 i, .int .i64 atv, .slice b.a b.len b.cap]) Try.f42.ntmps = true := by kernel_rfl
  have h5 : Try.f42.body = some (Try.f42.body.getD .skip) := by kernel_rfl
  have h6 := @fn_sound Try.prog 42 Try.f42 (Try.f42.body.getD .skip) A_disk_Disk_Foreign [.pointer d, .int .i64 i, .int .i64 atv, .slice b.a b.len b.cap] [.one (.int .i64)] K w Try.func42 h5 h2 h4 h1
  exact cast (by kernel_rfl : callK Try.prog 42 (List.toArray (α := Value) [.pointer d, .int .i64 i, .int .i64 atv, .slice b.a b.len b.cap]) [.one (.int .i64)] K w = C_disk_Disk_Foreign d i atv b w K) h6

def F_ref01_Copy (b : Sl) (w : World) (K : Sl → World → Prop) : Prop :=
  Ar .i64 (((b.len : Int)) + 3) fun z =>
  MkW w 5 [.int .u8 0] 1 ((b.len : Int)) z fun s w1 =>
  CopyW Try.prog 23 23 s (.slice b.a b.len b.cap) (fun _z_1 w2 =>
  K s w2) w1
def A_ref01_Copy : Ann := (.seq .nil (.seq .nil (.seq .nil (.seq .nil .nil))))
theorem S_ref01_Copy {b : Sl} {w : World} {K : Sl → World → Prop} (h : F_ref01_Copy b w K) : C_ref01_Copy b w K := by
  have h1 : wpc Try.prog A_ref01_Copy (Try.f43.body.getD .skip) (retK Try.prog [.one (.sl)] Try.f43.results.toList K) (argEnv [.slice b.a b.len b.cap]) w := cast (by kernel_rfl : F_ref01_Copy b w K = wpc Try.prog A_ref01_Copy (Try.f43.body.getD .skip) (retK Try.prog [.one (.sl)] Try.f43.results.toList K) (argEnv [.slice b.a b.len b.cap]) w) h
  have h2 : chk Try.prog Try.f43.ntmps A_ref01_Copy (Try.f43.body.getD .skip) = true := by kernel_rfl
  have h4 : Nat.ble (List.length (α := Value) [.slice b.a b.len b.cap]) Try.f43.ntmps = true := by kernel_rfl
  have h5 : Try.f43.body = some (Try.f43.body.getD .skip) := by kernel_rfl
  have h6 := @fn_sound Try.prog 43 Try.f43 (Try.f43.body.getD .skip) A_ref01_Copy [.slice b.a b.len b.cap] [.one (.sl)] K w Try.func43 h5 h2 h4 h1
  exact cast (by kernel_rfl : callK Try.prog 43 (List.toArray (α := Value) [.slice b.a b.len b.cap]) [.one (.sl)] K w = C_ref01_Copy b w K) h6

def F_ref08_Disk_Step (d : Option Addr) (w : World) (K : Int → World → Prop) : Prop :=
  ∃ J1 : World → Prop, (
  Nn d fun a =>
  ∃ vv : Int, Cell w (a.add 5) (.int .i64 vv) ∧
  If (vv == 0) (
  Nn d fun a_1 =>
  St1 w (a_1.add 6) (.bool true) fun w1 =>
  J1 w1) (
  J1 w)) ∧ ∀ (_ : Env) (w2 : World), J1 w2 →
  Nn d fun a_2 =>
  ∃ vv_1 : Bool, Cell w2 (a_2.add 6) (.bool vv_1) ∧
  If vv_1 (
  K 81 w2) (
  ∃ J0 : World → Prop, (
  Nn d fun a_3 =>
  ∃ vv_2 : Int, Cell w2 (a_3.add 5) (.int .i64 vv_2) ∧
  If (decide (vv_2 > 0)) (
  Nn d fun a_4 =>
  ∃ vv_3 : Int, Cell w2 (a_4.add 5) (.int .i64 vv_3) ∧
  Ar .i64 (vv_3 - 1) fun z =>
  Nn d fun a_5 =>
  St1 w2 (a_5.add 5) (.int .i64 z) fun w3 =>
  J0 w3) (
  J0 w2)) ∧ ∀ (_ : Env) (w4 : World), J0 w4 →
  Nn d fun a_6 =>
  ∃ vv_4 : Int, Cell w4 (a_6.add 3) (.int .u64 vv_4) ∧
  Ar .u64 (vv_4 + 1) fun z_1 =>
  Nn d fun a_7 =>
  St1 w4 (a_7.add 3) (.int .u64 z_1) fun w5 =>
  Nn d fun a_8 =>
  ∃ vv_5 : Int, Cell w5 (a_8.add 4) (.int .i64 vv_5) ∧
  If (vv_5 == 0) (
  K 0 w5) (
  Nn d fun a_9 =>
  ∃ vv_6 : Int, Cell w5 (a_9.add 4) (.int .i64 vv_6) ∧
  Ar .i64 (vv_6 - 1) fun z_2 =>
  Nn d fun a_10 =>
  St1 w5 (a_10.add 4) (.int .i64 z_2) fun w6 =>
  Nn d fun a_11 =>
  ∃ vv_7 : Int, Cell w6 (a_11.add 4) (.int .i64 vv_7) ∧
  If (vv_7 == 0) (
  K 80 w6) (
  K 0 w6)))
def A_ref08_Disk_Step : Ann := (.seq .nil (.join [] 2040 (.seq .nil (.cond .nil .nil)) (.seq (.seq .nil (.cond (.seq .nil .nil) .nil)) (.join [] 268402688 (.seq .nil (.cond .nil .nil)) (.seq .nil (.seq (.seq .nil (.cond (.seq .nil .nil) .nil)) (.seq .nil (.seq (.seq .nil (.cond (.seq .nil .nil) .nil)) (.seq .nil .nil)))))))))
theorem S_ref08_Disk_Step {d : Option Addr} {w : World} {K : Int → World → Prop} (h : F_ref08_Disk_Step d w K) : C_ref08_Disk_Step d w K := by
  have h1 : wpc Try.prog A_ref08_Disk_Step (Try.f53.body.getD .skip) (retK Try.prog [.one (.int .i64)] Try.f53.results.toList K) (argEnv [.pointer d]) w := cast (by kernel_rfl : F_ref08_Disk_Step d w K = wpc Try.prog A_ref08_Disk_Step (Try.f53.body.getD .skip) (retK Try.prog [.one (.int .i64)] Try.f53.results.toList K) (argEnv [.pointer d]) w) h
  have h2 : chk Try.prog Try.f53.ntmps A_ref08_Disk_Step (Try.f53.body.getD .skip) = true := by kernel_rfl
  have h4 : Nat.ble (List.length (α := Value) [.pointer d]) Try.f53.ntmps = true := by kernel_rfl
  have h5 : Try.f53.body = some (Try.f53.body.getD .skip) := by kernel_rfl
  have h6 := @fn_sound Try.prog 53 Try.f53 (Try.f53.body.getD .skip) A_ref08_Disk_Step [.pointer d] [.one (.int .i64)] K w Try.func53 h5 h2 h4 h1
  exact cast (by kernel_rfl : callK Try.prog 53 (List.toArray (α := Value) [.pointer d]) [.one (.int .i64)] K w = C_ref08_Disk_Step d w K) h6

def F_ref08_Disk_Has (d : Option Addr) (i : Int) (w : World) (K : Bool → World → Prop) : Prop :=
  If (decide (i ≥ 0)) (
  Nn d fun a =>
  ∃ vv : Sl, Cell w a (.slice vv.a vv.len vv.cap) ∧
  K (decide (i < ((vv.len : Int)))) w) (
  K false w)
def A_ref08_Disk_Has : Ann := (.seq .nil (.seq .nil .nil))
theorem S_ref08_Disk_Has {d : Option Addr} {i : Int} {w : World} {K : Bool → World → Prop} (h : F_ref08_Disk_Has d i w K) : C_ref08_Disk_Has d i w K := by
  have h1 : wpc Try.prog A_ref08_Disk_Has (Try.f56.body.getD .skip) (retK Try.prog [.one (.bool)] Try.f56.results.toList K) (argEnv [.pointer d, .int .i64 i]) w := cast (by kernel_rfl : F_ref08_Disk_Has d i w K = wpc Try.prog A_ref08_Disk_Has (Try.f56.body.getD .skip) (retK Try.prog [.one (.bool)] Try.f56.results.toList K) (argEnv [.pointer d, .int .i64 i]) w) h
  have h2 : chk Try.prog Try.f56.ntmps A_ref08_Disk_Has (Try.f56.body.getD .skip) = true := by kernel_rfl
  have h4 : Nat.ble (List.length (α := Value) [.pointer d, .int .i64 i]) Try.f56.ntmps = true := by kernel_rfl
  have h5 : Try.f56.body = some (Try.f56.body.getD .skip) := by kernel_rfl
  have h6 := @fn_sound Try.prog 56 Try.f56 (Try.f56.body.getD .skip) A_ref08_Disk_Has [.pointer d, .int .i64 i] [.one (.bool)] K w Try.func56 h5 h2 h4 h1
  exact cast (by kernel_rfl : callK Try.prog 56 (List.toArray (α := Value) [.pointer d, .int .i64 i]) [.one (.bool)] K w = C_ref08_Disk_Has d i w K) h6

def F_ref08_Disk_Write (d : Option Addr) (i : Int) (b : Sl) (w : World) (K : Int → World → Prop) : Prop :=
  ∃ J0 : World → Prop, (
  C_ref08_Disk_Has d i w fun r w1 =>
  If (!r) (
  K 2 w1) (
  If (((b.len : Int)) != 256) (
  K 2 w1) (
  J0 w1))) ∧ ∀ (_ : Env) (w2 : World), J0 w2 →
  C_ref08_Disk_Step d w2 fun r_1 w3 =>
  If (r_1 != 0) (
  K r_1 w3) (
  ∃ S : World → Prop, S (drewW w3) ∧
  Nn d fun a =>
  ∃ vv : Sl, Held S a (.slice vv.a vv.len vv.cap) ∧
  C_ref01_Copy b (drewW w3) fun r_2 w4 =>
  S w4 ∧
  Ix vv.a vv.len i 1 fun a_1 =>
  St1 w4 a_1 (.slice r_2.a r_2.len r_2.cap) fun w5 =>
  S w5 ∧
  ∃ S : World → Prop, S (drewW w5) ∧
  Nn d fun a_2 =>
  ∃ vv_1 : Sl, Held S (a_2.add 2) (.slice vv_1.a vv_1.len vv_1.cap) ∧
  C_ref01_Copy b (drewW w5) fun r_3 w6 =>
  S w6 ∧
  NewW w6 (.cells [.int .i64 i, .slice r_3.a r_3.len r_3.cap].toArray 92) fun b_1 w7 =>
  S w7 ∧
  AppW Try.prog 67 67 vv_1 (.slice (some (Addr.mk b_1 0 none)) 1 1) (fun s w8 =>
  S w8 ∧
  Nn d fun a_3 =>
  St1 w8 (a_3.add 2) (.slice s.a s.len s.cap) fun w9 =>
  K 0 w9) w7)
def A_ref08_Disk_Write : Ann := (.seq .nil (.join [] 130880 (.seq .nil (.cond (.seq .nil .nil) .nil)) (.seq .nil (.seq (.seq .nil (.cond (.seq .nil .nil) .nil)) (.seq (.draw (.take 0 (.take 1 (.take 2 (.take 3 (.take 4 (.take 5 (.one 6 (.take 7 (.one 8 .fin)))))))))) (.seq (.draw (.take 0 (.take 1 (.take 2 (.take 3 (.take 4 (.take 5 (.take 6 (.one 7 (.take 8 (.one 9 (.one 10 (.take 11 (.take 12 (.last 13))))))))))))))) (.seq .nil .nil)))))))
theorem S_ref08_Disk_Write {d : Option Addr} {i : Int} {b : Sl} {w : World} {K : Int → World → Prop} (h : F_ref08_Disk_Write d i b w K) : C_ref08_Disk_Write d i b w K := by
  have h1 : wpc Try.prog A_ref08_Disk_Write (Try.f50.body.getD .skip) (retK Try.prog [.one (.int .i64)] Try.f50.results.toList K) (argEnv [.pointer d, .int .i64 i, .slice b.a b.len b.cap]) w := cast (by kernel_rfl : F_ref08_Disk_Write d i b w K = wpc Try.prog A_ref08_Disk_Write (Try.f50.body.getD .skip) (retK Try.prog [.one (.int .i64)] Try.f50.results.toList K) (argEnv [.pointer d, .int .i64 i, .slice b.a b.len b.cap]) w) h
  have h2 : chk Try.prog Try.f50.ntmps A_ref08_Disk_Write (Try.f50.body.getD .skip) = true := by kernel_rfl
  have h4 : Nat.ble (List.length (α := Value) [.pointer d, .int .i64 i, .slice b.a b.len b.cap]) Try.f50.ntmps = true := by kernel_rfl
  have h5 : Try.f50.body = some (Try.f50.body.getD .skip) := by kernel_rfl
  have h6 := @fn_sound Try.prog 50 Try.f50 (Try.f50.body.getD .skip) A_ref08_Disk_Write [.pointer d, .int .i64 i, .slice b.a b.len b.cap] [.one (.int .i64)] K w Try.func50 h5 h2 h4 h1
  exact cast (by kernel_rfl : callK Try.prog 50 (List.toArray (α := Value) [.pointer d, .int .i64 i, .slice b.a b.len b.cap]) [.one (.int .i64)] K w = C_ref08_Disk_Write d i b w K) h6

def F_ref08_Disk_Read (d : Option Addr) (i : Int) (w : World) (K : Sl → Int → World → Prop) : Prop :=
  C_ref08_Disk_Has d i w fun r w1 =>
  If (!r) (
  K ⟨none, 0, 0⟩ 2 w1) (
  Nn d fun a =>
  ∃ vv : Bool, Cell w1 (a.add 6) (.bool vv) ∧
  If vv (
  K ⟨none, 0, 0⟩ 81 w1) (
  Nn d fun a_1 =>
  ∃ vv_1 : Sl, Cell w1 a_1 (.slice vv_1.a vv_1.len vv_1.cap) ∧
  Ix vv_1.a vv_1.len i 1 fun a_2 =>
  ∃ vv_2 : Sl, Cell w1 a_2 (.slice vv_2.a vv_2.len vv_2.cap) ∧
  C_ref01_Copy vv_2 w1 fun r_1 w2 =>
  K r_1 0 w2))
def A_ref08_Disk_Read : Ann := (.seq .nil (.seq (.seq .nil (.cond (.seq .nil .nil) .nil)) (.seq (.seq .nil (.cond (.seq .nil .nil) .nil)) (.seq .nil .nil))))
theorem S_ref08_Disk_Read {d : Option Addr} {i : Int} {w : World} {K : Sl → Int → World → Prop} (h : F_ref08_Disk_Read d i w K) : C_ref08_Disk_Read d i w K := by
  have h1 : wpc Try.prog A_ref08_Disk_Read (Try.f51.body.getD .skip) (retK Try.prog [.one (.sl), .one (.int .i64)] Try.f51.results.toList K) (argEnv [.pointer d, .int .i64 i]) w := cast (by kernel_rfl : F_ref08_Disk_Read d i w K = wpc Try.prog A_ref08_Disk_Read (Try.f51.body.getD .skip) (retK Try.prog [.one (.sl), .one (.int .i64)] Try.f51.results.toList K) (argEnv [.pointer d, .int .i64 i]) w) h
  have h2 : chk Try.prog Try.f51.ntmps A_ref08_Disk_Read (Try.f51.body.getD .skip) = true := by kernel_rfl
  have h4 : Nat.ble (List.length (α := Value) [.pointer d, .int .i64 i]) Try.f51.ntmps = true := by kernel_rfl
  have h5 : Try.f51.body = some (Try.f51.body.getD .skip) := by kernel_rfl
  have h6 := @fn_sound Try.prog 51 Try.f51 (Try.f51.body.getD .skip) A_ref08_Disk_Read [.pointer d, .int .i64 i] [.one (.sl), .one (.int .i64)] K w Try.func51 h5 h2 h4 h1
  exact cast (by kernel_rfl : callK Try.prog 51 (List.toArray (α := Value) [.pointer d, .int .i64 i]) [.one (.sl), .one (.int .i64)] K w = C_ref08_Disk_Read d i w K) h6

def F_ref08_Disk_Sync (d : Option Addr) (w : World) (K : Int → World → Prop) : Prop :=
  C_ref08_Disk_Step d w fun r w1 =>
  If (r != 0) (
  K r w1) (
  ∃ I0 : Nat → Int → World → Prop, (∃ m, I0 m 0 w1) ∧ ∀ (_ : Env) (m0 : Nat) (i : Int) (w2 : World), I0 m0 i w2 →
  Nn d fun a =>
  ∃ vv : Sl, Cell w2 a (.slice vv.a vv.len vv.cap) ∧
  If (decide (i < ((vv.len : Int)))) (
  ∃ S : World → Prop, S (drewW w2) ∧
  Nn d fun a_1 =>
  ∃ vv_1 : Sl, Held S (a_1.add 1) (.slice vv_1.a vv_1.len vv_1.cap) ∧
  Nn d fun a_2 =>
  ∃ vv_2 : Sl, Held S a_2 (.slice vv_2.a vv_2.len vv_2.cap) ∧
  Ix vv_2.a vv_2.len i 1 fun a_3 =>
  ∃ vv_3 : Sl, Held S a_3 (.slice vv_3.a vv_3.len vv_3.cap) ∧
  C_ref01_Copy vv_3 (drewW w2) fun r_1 w3 =>
  S w3 ∧
  Ix vv_1.a vv_1.len i 1 fun a_4 =>
  St1 w3 a_4 (.slice r_1.a r_1.len r_1.cap) fun w4 =>
  S w4 ∧
  Ar .i64 (i + 1) fun z =>
  ∃ m1, m1 < m0 ∧ I0 m1 z w4) (
  Nn d fun a_5 =>
  St1 w2 (a_5.add 2) (.slice none 0 0) fun w5 =>
  K 0 w5))
def A_ref08_Disk_Sync : Ann := (.seq .nil (.seq .nil (.seq (.seq .nil (.cond (.seq .nil .nil) .nil)) (.seq (.seq .nil (.block (.loop [(4, .int .i64)] 8589933584 (.seq (.seq .nil (.cond .nil .nil)) (.seq (.block (.draw (.take 0 (.take 1 (.take 2 (.take 3 (.take 4 (.take 5 (.take 6 (.take 7 (.take 8 (.take 9 (.take 10 (.take 11 (.one 12 (.take 13 (.one 14 .fin))))))))))))))))) .nil))))) (.seq .nil (.seq .nil .nil))))))
theorem S_ref08_Disk_Sync {d : Option Addr} {w : World} {K : Int → World → Prop} (h : F_ref08_Disk_Sync d w K) : C_ref08_Disk_Sync d w K := by
  have h1 : wpc Try.prog A_ref08_Disk_Sync (Try.f52.body.getD .skip) (retK Try.prog [.one (.int .i64)] Try.f52.results.toList K) (argEnv [.pointer d]) w := cast (by kernel_rfl : F_ref08_Disk_Sync d w K = wpc Try.prog A_ref08_Disk_Sync (Try.f52.body.getD .skip) (retK Try.prog [.one (.int .i64)] Try.f52.results.toList K) (argEnv [.pointer d]) w) h
  have h2 : chk Try.prog Try.f52.ntmps A_ref08_Disk_Sync (Try.f52.body.getD .skip) = true := by kernel_rfl
  have h4 : Nat.ble (List.length (α := Value) [.pointer d]) Try.f52.ntmps = true := by kernel_rfl
  have h5 : Try.f52.body = some (Try.f52.body.getD .skip) := by kernel_rfl
  have h6 := @fn_sound Try.prog 52 Try.f52 (Try.f52.body.getD .skip) A_ref08_Disk_Sync [.pointer d] [.one (.int .i64)] K w Try.func52 h5 h2 h4 h1
  exact cast (by kernel_rfl : callK Try.prog 52 (List.toArray (α := Value) [.pointer d]) [.one (.int .i64)] K w = C_ref08_Disk_Sync d w K) h6

def F_ref08_Disk_Crash (d : Option Addr) (masks : Sl) (w : World) (K : World → Prop) : Prop :=
  ∃ J1 : World → Prop, (
  ∃ I2 : Nat → Int → World → Prop, (∃ m, I2 m 0 w) ∧ ∀ (_ : Env) (m0 : Nat) (k : Int) (w1 : World), I2 m0 k w1 →
  ∃ J0 : World → Prop, (
  Nn d fun a =>
  ∃ vv : Sl, Cell w1 (a.add 2) (.slice vv.a vv.len vv.cap) ∧
  If (decide (k < ((vv.len : Int)))) (
  If (decide (k < ((masks.len : Int)))) (
  J0 w1) (
  J1 w1)) (
  J1 w1)) ∧ ∀ (_ : Env) (w2 : World), J0 w2 →
  ∃ I1 : Nat → Int → World → Prop, (∃ m, I1 m 0 w2) ∧ ∀ (_ : Env) (m0_1 : Nat) (i : Int) (w3 : World), I1 m0_1 i w3 →
  If (decide (i < 256)) (
  Ix masks.a masks.len k 1 fun a_1 =>
  ∃ vv_1 : Int, Cell w3 a_1 (.int .u8 vv_1) ∧
  (64 : Int) ≠ 0 ∧ Ar .i64 (Int.tdiv i 64) fun z =>
  (0 : Int) ≤ z ∧ Nm (Int.fdiv vv_1 (2 ^ min (Int.toNat z) (IntKind.bits .u8))) fun z_1 =>
  (2 : Int) ≠ 0 ∧ Nm (Int.tmod z_1 2) fun z_2 =>
  If (z_2 == 1) (
  ∃ S : World → Prop, S (drewW w3) ∧
  Nn d fun a_2 =>
  ∃ vv_2 : Sl, Held S (a_2.add 1) (.slice vv_2.a vv_2.len vv_2.cap) ∧
  Nn d fun a_3 =>
  ∃ vv_3 : Sl, Held S (a_3.add 2) (.slice vv_3.a vv_3.len vv_3.cap) ∧
  Ix vv_3.a vv_3.len k 2 fun a_4 =>
  ∃ vv_4 : Int, Held S a_4 (.int .i64 vv_4) ∧
  Ix vv_2.a vv_2.len vv_4 1 fun a_5 =>
  ∃ vv_5 : Sl, Held S a_5 (.slice vv_5.a vv_5.len vv_5.cap) ∧
  Nn d fun a_6 =>
  ∃ vv_6 : Sl, Held S (a_6.add 2) (.slice vv_6.a vv_6.len vv_6.cap) ∧
  Ix vv_6.a vv_6.len k 2 fun a_7 =>
  ∃ vv_7 : Sl, Held S (a_7.add 1) (.slice vv_7.a vv_7.len vv_7.cap) ∧
  Ix vv_7.a vv_7.len i 1 fun a_8 =>
  ∃ vv_8 : Int, Held S a_8 (.int .u8 vv_8) ∧
  Ix vv_5.a vv_5.len i 1 fun a_9 =>
  St1 (drewW w3) a_9 (.int .u8 vv_8) fun w4 =>
  S w4 ∧
  Ar .i64 (i + 1) fun z_3 =>
  ∃ m1_1, m1_1 < m0_1 ∧ I1 m1_1 z_3 w4) (
  Ar .i64 (i + 1) fun z_4 =>
  ∃ m1_1, m1_1 < m0_1 ∧ I1 m1_1 z_4 w3)) (
  Ar .i64 (k + 1) fun z_5 =>
  ∃ m1, m1 < m0 ∧ I2 m1 z_5 w3)) ∧ ∀ (_ : Env) (w5 : World), J1 w5 →
  ∃ I0 : Nat → Int → World → Prop, (∃ m, I0 m 0 w5) ∧ ∀ (_ : Env) (m0_2 : Nat) (i_1 : Int) (w6 : World), I0 m0_2 i_1 w6 →
  Nn d fun a_10 =>
  ∃ vv_9 : Sl, Cell w6 a_10 (.slice vv_9.a vv_9.len vv_9.cap) ∧
  If (decide (i_1 < ((vv_9.len : Int)))) (
  ∃ S : World → Prop, S (drewW w6) ∧
  Nn d fun a_11 =>
  ∃ vv_10 : Sl, Held S a_11 (.slice vv_10.a vv_10.len vv_10.cap) ∧
  Nn d fun a_12 =>
  ∃ vv_11 : Sl, Held S (a_12.add 1) (.slice vv_11.a vv_11.len vv_11.cap) ∧
  Ix vv_11.a vv_11.len i_1 1 fun a_13 =>
  ∃ vv_12 : Sl, Held S a_13 (.slice vv_12.a vv_12.len vv_12.cap) ∧
  C_ref01_Copy vv_12 (drewW w6) fun r w7 =>
  S w7 ∧
  Ix vv_10.a vv_10.len i_1 1 fun a_14 =>
  St1 w7 a_14 (.slice r.a r.len r.cap) fun w8 =>
  S w8 ∧
  Ar .i64 (i_1 + 1) fun z_6 =>
  ∃ m1_2, m1_2 < m0_2 ∧ I0 m1_2 z_6 w8) (
  Nn d fun a_15 =>
  St1 w6 (a_15.add 2) (.slice none 0 0) fun w9 =>
  Nn d fun a_16 =>
  St1 w9 (a_16.add 4) (.int .i64 0) fun w10 =>
  Nn d fun a_17 =>
  St1 w10 (a_17.add 5) (.int .i64 (-1)) fun w11 =>
  Nn d fun a_18 =>
  St1 w11 (a_18.add 6) (.bool false) fun w12 =>
  K w12)
def A_ref08_Disk_Crash : Ann := (.join [] 4611686018427387824 (.seq .nil (.block (.loop [(4, .int .i64)] 4611686018427387824 (.join [] 1048448 (.seq .nil (.cond .nil .nil)) (.seq (.block (.seq .nil (.block (.loop [(5, .int .i64)] 4611686018423193632 (.seq (.seq .nil (.cond .nil .nil)) (.seq (.block (.seq .nil (.cond (.draw (.take 0 (.take 1 (.take 2 (.take 3 (.take 4 (.take 5 (.take 6 (.take 7 (.take 8 (.take 9 (.take 10 (.take 11 (.take 12 (.take 13 (.take 14 (.take 15 (.take 16 (.take 17 (.take 18 (.take 19 (.take 20 (.take 21 (.take 22 (.take 23 (.take 24 (.take 25 (.take 26 (.one 27 .fin))))))))))))))))))))))))))))) .nil))) .nil)))))) .nil))))) (.seq (.seq .nil (.block (.loop [(6, .int .i64)] 38685621615982115163209792 (.seq (.seq .nil (.cond .nil .nil)) (.seq (.block (.draw (.take 0 (.take 1 (.take 2 (.take 3 (.take 4 (.take 5 (.take 6 (.take 7 (.take 8 (.take 9 (.take 10 (.take 11 (.one 12 (.take 13 (.one 14 .fin))))))))))))))))) .nil))))) (.seq .nil (.seq .nil (.seq .nil .nil)))))
theorem S_ref08_Disk_Crash {d : Option Addr} {masks : Sl} {w : World} {K : World → Prop} (h : F_ref08_Disk_Crash d masks w K) : C_ref08_Disk_Crash d masks w K := by
  have h1 : wpc Try.prog A_ref08_Disk_Crash (Try.f54.body.getD .skip) (retK Try.prog [] Try.f54.results.toList K) (argEnv [.pointer d, .slice masks.a masks.len masks.cap]) w := cast (by kernel_rfl : F_ref08_Disk_Crash d masks w K = wpc Try.prog A_ref08_Disk_Crash (Try.f54.body.getD .skip) (retK Try.prog [] Try.f54.results.toList K) (argEnv [.pointer d, .slice masks.a masks.len masks.cap]) w) h
  have h2 : chk Try.prog Try.f54.ntmps A_ref08_Disk_Crash (Try.f54.body.getD .skip) = true := by kernel_rfl
  have h4 : Nat.ble (List.length (α := Value) [.pointer d, .slice masks.a masks.len masks.cap]) Try.f54.ntmps = true := by kernel_rfl
  have h5 : Try.f54.body = some (Try.f54.body.getD .skip) := by kernel_rfl
  have h6 := @fn_sound Try.prog 54 Try.f54 (Try.f54.body.getD .skip) A_ref08_Disk_Crash [.pointer d, .slice masks.a masks.len masks.cap] [] K w Try.func54 h5 h2 h4 h1
  exact cast (by kernel_rfl : callK Try.prog 54 (List.toArray (α := Value) [.pointer d, .slice masks.a masks.len masks.cap]) [] K w = C_ref08_Disk_Crash d masks w K) h6

def F_ref08_Disk_Foreign (d : Option Addr) (i : Int) (atv : Int) (b : Sl) (w : World) (K : Int → World → Prop) : Prop :=
  ∃ J0 : World → Prop, (
  C_ref08_Disk_Has d i w fun r w1 =>
  If (!r) (
  K 2 w1) (
  If (decide (atv < 0)) (
  K 2 w1) (
  If (decide (atv > 256)) (
  K 2 w1) (
  Ar .i64 (256 - atv) fun z =>
  If (decide (((b.len : Int)) > z)) (
  K 2 w1) (
  J0 w1))))) ∧ ∀ (_ : Env) (w2 : World), J0 w2 →
  ∃ I0 : Nat → Int → World → Prop, (∃ m, I0 m 0 w2) ∧ ∀ (_ : Env) (m0 : Nat) (k : Int) (w3 : World), I0 m0 k w3 →
  If (decide (k < ((b.len : Int)))) (
  ∃ S : World → Prop, S (drewW w3) ∧
  Nn d fun a =>
  ∃ vv : Sl, Held S a (.slice vv.a vv.len vv.cap) ∧
  Ix vv.a vv.len i 1 fun a_1 =>
  ∃ vv_1 : Sl, Held S a_1 (.slice vv_1.a vv_1.len vv_1.cap) ∧
  Ar .i64 (atv + k) fun z_1 =>
  Ix b.a b.len k 1 fun a_2 =>
  ∃ vv_2 : Int, Held S a_2 (.int .u8 vv_2) ∧
  Ix vv_1.a vv_1.len z_1 1 fun a_3 =>
  St1 (drewW w3) a_3 (.int .u8 vv_2) fun w4 =>
  S w4 ∧
  ∃ S : World → Prop, S (drewW w4) ∧
  Nn d fun a_4 =>
  ∃ vv_3 : Sl, Held S (a_4.add 1) (.slice vv_3.a vv_3.len vv_3.cap) ∧
  Ix vv_3.a vv_3.len i 1 fun a_5 =>
  ∃ vv_4 : Sl, Held S a_5 (.slice vv_4.a vv_4.len vv_4.cap) ∧
  Ar .i64 (atv + k) fun z_2 =>
  Ix b.a b.len k 1 fun a_6 =>
  ∃ vv_5 : Int, Held S a_6 (.int .u8 vv_5) ∧
  Ix vv_4.a vv_4.len z_2 1 fun a_7 =>
  St1 (drewW w4) a_7 (.int .u8 vv_5) fun w5 =>
  S w5 ∧
  Ar .i64 (k + 1) fun z_3 =>
  ∃ m1, m1 < m0 ∧ I0 m1 z_3 w5) (
  K 0 w3)
def A_ref08_Disk_Foreign : Ann := (.seq .nil (.join [] 536870144 (.seq .nil (.cond (.seq .nil .nil) .nil)) (.seq (.seq .nil (.block (.loop [(9, .int .i64)] 36893488146882232832 (.seq (.seq .nil (.cond .nil .nil)) (.seq (.block (.seq (.draw (.take 0 (.take 1 (.take 2 (.take 3 (.take 4 (.take 5 (.take 6 (.take 7 (.take 8 (.take 9 (.take 10 (.take 11 (.take 12 (.take 13 (.take 14 (.one 15 .fin))))))))))))))))) (.draw (.take 0 (.take 1 (.take 2 (.take 3 (.take 4 (.take 5 (.take 6 (.take 7 (.take 8 (.take 9 (.take 10 (.take 11 (.take 12 (.take 13 (.take 14 (.one 15 .fin))))))))))))))))))) .nil))))) (.seq .nil .nil))))
theorem S_ref08_Disk_Foreign {d : Option Addr} {i : Int} {atv : Int} {b : Sl} {w : World} {K : Int → World → Prop} (h : F_ref08_Disk_Foreign d i atv b w K) : C_ref08_Disk_Foreign d i atv b w K := by
  have h1 : wpc Try.prog A_ref08_Disk_Foreign (Try.f55.body.getD .skip) (retK Try.prog [.one (.int .i64)] Try.f55.results.toList K) (argEnv [.pointer d, .int .i64 i, .int .i64 atv, .slice b.a b.len b.cap]) w := cast (by kernel_rfl : F_ref08_Disk_Foreign d i atv b w K = wpc Try.prog A_ref08_Disk_Foreign (Try.f55.body.getD .skip) (retK Try.prog [.one (.int .i64)] Try.f55.results.toList K) (argEnv [.pointer d, .int .i64 i, .int .i64 atv, .slice b.a b.len b.cap]) w) h
  have h2 : chk Try.prog Try.f55.ntmps A_ref08_Disk_Foreign (Try.f55.body.getD .skip) = true := by kernel_rfl
  have h4 : Nat.ble (List.length (α := Value) [.pointer d, .int .i64 i, .int .i64 atv, .slice b.a b.len b.cap]) Try.f55.ntmps = true := by kernel_rfl
  have h5 : Try.f55.body = some (Try.f55.body.getD .skip) := by kernel_rfl
  have h6 := @fn_sound Try.prog 55 Try.f55 (Try.f55.body.getD .skip) A_ref08_Disk_Foreign [.pointer d, .int .i64 i, .int .i64 atv, .slice b.a b.len b.cap] [.one (.int .i64)] K w Try.func55 h5 h2 h4 h1
  exact cast (by kernel_rfl : callK Try.prog 55 (List.toArray (α := Value) [.pointer d, .int .i64 i, .int .i64 atv, .slice b.a b.len b.cap]) [.one (.int .i64)] K w = C_ref08_Disk_Foreign d i atv b w K) h6

def F_law08_Does (d : Option Addr) (wv : Option Addr) (o0 : Int) (o1 : Int) (o2 : Int) (o3 : Sl) (o4 : Sl) (w : World) (K : Option Addr → Bool → World → Prop) : Prop :=
  NewW w (.cells [.int .i64 o0, .int .i64 o1, .int .i64 o2, .slice o3.a o3.len o3.cap, .slice o4.a o4.len o4.cap].toArray 32) fun b w1 =>
  ∃ J2 : World → Prop, (
  ∃ vv : Int, Cell w1 (Addr.mk b 0 none) (.int .i64 vv) ∧
  If (vv == 1) (
  ∃ vv_1 : Sl, Cell w1 ((Addr.mk b 0 none).add 3) (.slice vv_1.a vv_1.len vv_1.cap) ∧
  C_ref01_Copy vv_1 w1 fun r w2 =>
  ∃ vv_2 : Int, Cell w2 ((Addr.mk b 0 none).add 1) (.int .i64 vv_2) ∧
  C_disk_Disk_Write d vv_2 r w2 fun r_1 w3 =>
  ∃ J0 : Bool → World → Prop, (
  ∃ vv_3 : Sl, Cell w3 ((Addr.mk b 0 none).add 3) (.slice vv_3.a vv_3.len vv_3.cap) ∧
  C_ref01_Same r vv_3 w3 fun r_2 w4 =>
  If r_2 (
  ∃ vv_4 : Int, Cell w4 ((Addr.mk b 0 none).add 1) (.int .i64 vv_4) ∧
  ∃ vv_5 : Sl, Cell w4 ((Addr.mk b 0 none).add 3) (.slice vv_5.a vv_5.len vv_5.cap) ∧
  C_ref08_Disk_Write wv vv_4 vv_5 w4 fun r_3 w5 =>
  J0 (r_1 == r_3) w5) (
  J0 false w4)) ∧ ∀ (_ : Env) (ok : Bool) (w6 : World), J0 ok w6 →
  ∃ I0 : Nat → Int → World → Prop, (∃ m, I0 m 0 w6) ∧ ∀ (_ : Env) (m0 : Nat) (t : Int) (w7 : World), I0 m0 t w7 →
  If (decide (t < ((r.len : Int)))) (
  Ix r.a r.len t 1 fun a =>
  ∃ vv_6 : Int, Cell w7 a (.int .u8 vv_6) ∧
  Nm (bitI .xor .u8 vv_6 255) fun z =>
  Ix r.a r.len t 1 fun a_1 =>
  St1 w7 a_1 (.int .u8 z) fun w8 =>
  Ar .i64 (t + 1) fun z_1 =>
  ∃ m1, m1 < m0 ∧ I0 m1 z_1 w8) (
  K d ok w7)) (
  If (vv == 10) (
  ∃ S : World → Prop, S (drewW w1) ∧
  ∃ vv_7 : Int, Held S ((Addr.mk b 0 none).add 1) (.int .i64 vv_7) ∧
  ∃ vv_8 : Int, Held S ((Addr.mk b 0 none).add 2) (.int .i64 vv_8) ∧
  Ar .u8 vv_8 fun z_2 =>
  ∃ vv_9 : Int, Held S ((Addr.mk b 0 none).add 1) (.int .i64 vv_9) ∧
  ∃ vv_10 : Int, Held S ((Addr.mk b 0 none).add 2) (.int .i64 vv_10) ∧
  Ar .u8 vv_10 fun z_3 =>
  C_law08_full z_2 (drewW w1) fun r_4 w9 =>
  S w9 ∧
  C_disk_Disk_Write d vv_7 r_4 w9 fun r_5 w10 =>
  S w10 ∧
  C_law08_full z_3 w10 fun r_6 w11 =>
  S w11 ∧
  C_ref08_Disk_Write wv vv_9 r_6 w11 fun r_7 w12 =>
  S w12 ∧
  K d (r_5 == r_7) w12) (
  If (vv == 2) (
  ∃ vv_11 : Int, Cell w1 ((Addr.mk b 0 none).add 1) (.int .i64 vv_11) ∧
  C_disk_Disk_Read d vv_11 w1 fun r0_1 r1_1 w13 =>
  ∃ vv_12 : Int, Cell w13 ((Addr.mk b 0 none).add 1) (.int .i64 vv_12) ∧
  C_ref08_Disk_Read wv vv_12 w13 fun r0_2 r1_2 w14 =>
  ∃ J1 : Bool → World → Prop, (
  C_ref01_Same r0_1 r0_2 w14 fun r_8 w15 =>
  If r_8 (
  J1 (r1_1 == r1_2) w15) (
  J1 false w15)) ∧ ∀ (_ : Env) (ok_1 : Bool) (w16 : World), J1 ok_1 w16 →
  ∃ I1 : Nat → Int → World → Prop, (∃ m, I1 m 0 w16) ∧ ∀ (_ : Env) (m0_1 : Nat) (t_1 : Int) (w17 : World), I1 m0_1 t_1 w17 →
  If (decide (t_1 < ((r0_1.len : Int)))) (
  Ix r0_1.a r0_1.len t_1 1 fun a_2 =>
  ∃ vv_13 : Int, Cell w17 a_2 (.int .u8 vv_13) ∧
  Nm (bitI .xor .u8 vv_13 255) fun z_4 =>
  Ix r0_1.a r0_1.len t_1 1 fun a_3 =>
  St1 w17 a_3 (.int .u8 z_4) fun w18 =>
  Ar .i64 (t_1 + 1) fun z_5 =>
  ∃ m1_1, m1_1 < m0_1 ∧ I1 m1_1 z_5 w18) (
  K d ok_1 w17)) (
  If (vv == 3) (
  C_disk_Disk_Sync d w1 fun r_9 w19 =>
  C_ref08_Disk_Sync wv w19 fun r_10 w20 =>
  K d (r_9 == r_10) w20) (
  If (vv == 4) (
  C_disk_Disk_Step d w1 fun r_11 w21 =>
  C_ref08_Disk_Step wv w21 fun r_12 w22 =>
  K d (r_11 == r_12) w22) (
  If (vv == 5) (
  ∃ vv_14 : Int, Cell w1 ((Addr.mk b 0 none).add 1) (.int .i64 vv_14) ∧
  C_disk_Disk_Fail d vv_14 w1 fun w23 =>
  ∃ vv_15 : Int, Cell w23 ((Addr.mk b 0 none).add 1) (.int .i64 vv_15) ∧
  Nm (iMax vv_15 0) fun z_6 =>
  Nn wv fun a_4 =>
  St1 w23 (a_4.add 4) (.int .i64 z_6) fun w24 =>
  J2 w24) (
  If (vv == 6) (
  ∃ vv_16 : Int, Cell w1 ((Addr.mk b 0 none).add 1) (.int .i64 vv_16) ∧
  C_disk_Disk_Cut d vv_16 w1 fun w25 =>
  ∃ vv_17 : Int, Cell w25 ((Addr.mk b 0 none).add 1) (.int .i64 vv_17) ∧
  Nm (iMax vv_17 (-1)) fun z_7 =>
  Nn wv fun a_5 =>
  St1 w25 (a_5.add 5) (.int .i64 z_7) fun w26 =>
  J2 w26) (
  If (vv == 7) (
  ∃ vv_18 : Sl, Cell w1 ((Addr.mk b 0 none).add 4) (.slice vv_18.a vv_18.len vv_18.cap) ∧
  C_ref08_Disk_Crash wv vv_18 w1 fun w27 =>
  ∃ vv_19 : Sl, Cell w27 ((Addr.mk b 0 none).add 4) (.slice vv_19.a vv_19.len vv_19.cap) ∧
  C_disk_Disk_Crash d vv_19 w27 fun r_13 w28 =>
  K d (r_13 == 0) w28) (
  If (vv == 8) (
  ∃ S : World → Prop, S (drewW w1) ∧
  ∃ vv_20 : Int, Held S ((Addr.mk b 0 none).add 1) (.int .i64 vv_20) ∧
  ∃ vv_21 : Int, Held S ((Addr.mk b 0 none).add 2) (.int .i64 vv_21) ∧
  ∃ vv_22 : Sl, Held S ((Addr.mk b 0 none).add 3) (.slice vv_22.a vv_22.len vv_22.cap) ∧
  ∃ vv_23 : Int, Held S ((Addr.mk b 0 none).add 1) (.int .i64 vv_23) ∧
  ∃ vv_24 : Int, Held S ((Addr.mk b 0 none).add 2) (.int .i64 vv_24) ∧
  ∃ vv_25 : Sl, Held S ((Addr.mk b 0 none).add 3) (.slice vv_25.a vv_25.len vv_25.cap) ∧
  C_ref01_Copy vv_22 (drewW w1) fun r_14 w29 =>
  S w29 ∧
  C_disk_Disk_Foreign d vv_20 vv_21 r_14 w29 fun r_15 w30 =>
  S w30 ∧
  C_ref08_Disk_Foreign wv vv_23 vv_24 vv_25 w30 fun r_16 w31 =>
  S w31 ∧
  K d (r_15 == r_16) w31) (
  If (vv == 9) (
  C_disk_Disk_Fork d w1 fun r_17 w32 =>
  C_disk_Disk_Crash d ⟨none, 0, 0⟩ w32 fun _r_18 w33 =>
  C_law08_full 99 w33 fun r_19 w34 =>
  C_disk_Disk_Write d 0 r_19 w34 fun _r_20 w35 =>
  C_disk_Disk_Sync d w35 fun _r_21 w36 =>
  K r_17 (!(Option.isNone r_17)) w36) (
  J2 w1))))))))))) ∧ ∀ (_ : Env) (w37 : World), J2 w37 →
  ∃ vv_26 : Int, Cell w37 ((Addr.mk b 0 none).add 1) (.int .i64 vv_26) ∧
  C_disk_Disk_Firm d vv_26 w37 fun r0_3 r1_3 w38 =>
  ∃ vv_27 : Int, Cell w38 ((Addr.mk b 0 none).add 1) (.int .i64 vv_27) ∧
  C_ref08_Disk_Has wv vv_27 w38 fun r_22 w39 =>
  If (!r_22) (
  If (((r0_3.len : Int)) == 0) (
  K d (r1_3 == 2) w39) (
  K d false w39)) (
  ∃ S : World → Prop, S (drewW w39) ∧
  If (r1_3 == 0) (
  Nn wv fun a_6 =>
  ∃ vv_28 : Sl, Held S (a_6.add 1) (.slice vv_28.a vv_28.len vv_28.cap) ∧
  ∃ vv_29 : Int, Held S ((Addr.mk b 0 none).add 1) (.int .i64 vv_29) ∧
  Ix vv_28.a vv_28.len vv_29 1 fun a_7 =>
  ∃ vv_30 : Sl, Held S a_7 (.slice vv_30.a vv_30.len vv_30.cap) ∧
  C_ref01_Same r0_3 vv_30 (drewW w39) fun r_23 w40 =>
  S w40 ∧
  K d r_23 w40) (
  K d false ((drewW w39))))
def A_law08_Does : Ann := (.seq .nil (.join [] 102844034832575377634685573909834406561420991602098741457715136 (.seq .nil (.block (.seq .nil (.cond (.seq .nil (.seq .nil (.join [(10, .bool)] 140728898421760 .nil (.seq (.seq .nil (.block (.loop [(49, .int .i64)] 575897802350004224 (.seq .nil (.seq (.cond .nil .nil) (.seq (.block (.seq .nil .nil)) .nil)))))) (.seq .nil .nil))))) (.seq .nil (.cond (.seq (.draw (.take 0 (.take 1 (.take 2 (.take 3 (.take 4 (.take 5 (.take 6 (.take 9 (.take 10 (.take 11 (.take 12 (.take 13 (.take 14 (.one 7 (.one 8 (.one 15 (.one 16 (.take 17 (.take 18 (.take 19 .fin))))))))))))))))))))) .nil) (.seq .nil (.cond (.seq .nil (.seq .nil (.join [(16, .bool)] 40406362882274812172707414736896 .nil (.seq (.seq .nil (.block (.loop [(107, .int .i64)] 165991240196285270749584304524886016 (.seq .nil (.seq (.cond .nil .nil) (.seq (.block (.seq .nil .nil)) .nil)))))) (.seq .nil .nil))))) (.seq .nil (.cond (.seq .nil .nil) (.seq .nil (.cond (.seq .nil .nil) (.seq .nil (.cond (.seq .nil .nil) (.seq .nil (.cond (.seq .nil .nil) (.seq .nil (.cond (.seq .nil (.seq .nil .nil)) (.seq .nil (.cond (.seq (.draw (.take 0 (.take 1 (.take 2 (.take 3 (.take 4 (.take 5 (.take 6 (.take 7 (.take 10 (.take 11 (.take 12 (.take 13 (.take 14 (.take 15 (.take 16 (.one 8 (.one 9 (.one 17 (.take 18 (.take 19 (.take 20 .fin)))))))))))))))))))))) .nil) (.seq .nil (.cond (.seq .nil (.seq .nil (.seq .nil (.seq .nil (.seq .nil .nil))))) .nil)))))))))))))))))))))) (.seq .nil (.seq (.seq .nil (.cond (.seq .nil .nil) .nil)) (.seq (.draw (.take 0 (.take 1 (.take 2 (.take 3 (.take 4 (.take 5 (.take 6 (.take 7 (.take 8 (.take 9 (.take 10 (.take 11 (.take 12 (.one 13 (.take 14 (.take 15 (.take 16 .fin)))))))))))))))))) .nil)))))
theorem S_law08_Does {d : Option Addr} {wv : Option Addr} {o0 : Int} {o1 : Int} {o2 : Int} {o3 : Sl} {o4 : Sl} {w : World} {K : Option Addr → Bool → World → Prop} (h : F_law08_Does d wv o0 o1 o2 o3 o4 w K) : C_law08_Does d wv o0 o1 o2 o3 o4 w K := by
  have h1 : wpc Try.prog A_law08_Does (Try.f39.body.getD .skip) (retK Try.prog [.one (.ptr), .one (.bool)] Try.f39.results.toList K) (argEnv [.pointer d, .pointer wv, .agg ([.int .i64 o0, .int .i64 o1, .int .i64 o2, .slice o3.a o3.len o3.cap, .slice o4.a o4.len o4.cap]).toArray]) w := cast (by kernel_rfl : F_law08_Does d wv o0 o1 o2 o3 o4 w K = wpc Try.prog A_law08_Does (Try.f39.body.getD .skip) (retK Try.prog [.one (.ptr), .one (.bool)] Try.f39.results.toList K) (argEnv [.pointer d, .pointer wv, .agg ([.int .i64 o0, .int .i64 o1, .int .i64 o2, .slice o3.a o3.len o3.cap, .slice o4.a o4.len o4.cap]).toArray]) w) h
  have h2 : chk Try.prog Try.f39.ntmps A_law08_Does (Try.f39.body.getD .skip) = true := by kernel_rfl
  have h4 : Nat.ble (List.length (α := Value) [.pointer d, .pointer wv, .agg ([.int .i64 o0, .int .i64 o1, .int .i64 o2, .slice o3.a o3.len o3.cap, .slice o4.a o4.len o4.cap]).toArray]) Try.f39.ntmps = true := by kernel_rfl
  have h5 : Try.f39.body = some (Try.f39.body.getD .skip) := by kernel_rfl
  have h6 := @fn_sound Try.prog 39 Try.f39 (Try.f39.body.getD .skip) A_law08_Does [.pointer d, .pointer wv, .agg ([.int .i64 o0, .int .i64 o1, .int .i64 o2, .slice o3.a o3.len o3.cap, .slice o4.a o4.len o4.cap]).toArray] [.one (.ptr), .one (.bool)] K w Try.func39 h5 h2 h4 h1
  exact cast (by kernel_rfl : callK Try.prog 39 (List.toArray (α := Value) [.pointer d, .pointer wv, .agg ([.int .i64 o0, .int .i64 o1, .int .i64 o2, .slice o3.a o3.len o3.cap, .slice o4.a o4.len o4.cap]).toArray]) [.one (.ptr), .one (.bool)] K w = C_law08_Does d wv o0 o1 o2 o3 o4 w K) h6

def F_ref09_New (d : Option Addr) (limit : Int) (draws : Sl) (w : World) (K : Option Addr → World → Prop) : Prop :=
  NewW w (.cells [.pointer none, .int .u64 0, .int .u64 0, .int .u64 0, .slice none 0 0].toArray 78) fun b w1 =>
  List.length (α := Value) [.pointer d, .int .u64 limit, .int .u64 0, .int .u64 0, .slice none 0 0] = 5 ∧ StN w1 (Addr.mk b 0 none) [.pointer d, .int .u64 limit, .int .u64 0, .int .u64 0, .slice none 0 0] fun w2 =>
  ∃ I0 : Nat → Int → World → Prop, (∃ m, I0 m 0 w2) ∧ ∀ (_ : Env) (m0 : Nat) (i : Int) (w3 : World), I0 m0 i w3 →
  If (decide (i < ((draws.len : Int)))) (
  ∃ S : World → Prop, S (drewW w3) ∧
  ∃ vv : Sl, Held S ((Addr.mk b 0 none).add 4) (.slice vv.a vv.len vv.cap) ∧
  Ix draws.a draws.len i 1 fun a =>
  ∃ vv_1 : Sl, Held S a (.slice vv_1.a vv_1.len vv_1.cap) ∧
  C_ref01_Copy vv_1 (drewW w3) fun r w4 =>
  S w4 ∧
  NewW w4 (.cells [.slice r.a r.len r.cap].toArray 23) fun b_1 w5 =>
  S w5 ∧
  AppW Try.prog 49 49 vv (.slice (some (Addr.mk b_1 0 none)) 1 1) (fun s w6 =>
  S w6 ∧
  St1 w6 ((Addr.mk b 0 none).add 4) (.slice s.a s.len s.cap) fun w7 =>
  Ar .i64 (i + 1) fun z =>
  ∃ m1, m1 < m0 ∧ I0 m1 z w7) w5) (
  K (some (Addr.mk b 0 none)) w3)
def A_ref09_New : Ann := (.seq .nil (.seq .nil (.seq (.seq .nil (.block (.loop [(8, .int .i64)] 268431616 (.seq (.seq .nil (.cond .nil .nil)) (.seq (.block (.draw (.take 0 (.take 1 (.take 2 (.take 3 (.take 4 (.take 5 (.one 6 (.one 7 (.one 8 (.take 9 (.last 10))))))))))))) .nil))))) (.seq .nil .nil))))
theorem S_ref09_New {d : Option Addr} {limit : Int} {draws : Sl} {w : World} {K : Option Addr → World → Prop} (h : F_ref09_New d limit draws w K) : C_ref09_New d limit draws w K := by
  have h1 : wpc Try.prog A_ref09_New (Try.f44.body.getD .skip) (retK Try.prog [.one (.ptr)] Try.f44.results.toList K) (argEnv [.pointer d, .int .u64 limit, .slice draws.a draws.len draws.cap]) w := cast (by kernel_rfl : F_ref09_New d limit draws w K = wpc Try.prog A_ref09_New (Try.f44.body.getD .skip) (retK Try.prog [.one (.ptr)] Try.f44.results.toList K) (argEnv [.pointer d, .int .u64 limit, .slice draws.a draws.len draws.cap]) w) h
  have h2 : chk Try.prog Try.f44.ntmps A_ref09_New (Try.f44.body.getD .skip) = true := by kernel_rfl
  have h4 : Nat.ble (List.length (α := Value) [.pointer d, .int .u64 limit, .slice draws.a draws.len draws.cap]) Try.f44.ntmps = true := by kernel_rfl
  have h5 : Try.f44.body = some (Try.f44.body.getD .skip) := by kernel_rfl
  have h6 := @fn_sound Try.prog 44 Try.f44 (Try.f44.body.getD .skip) A_ref09_New [.pointer d, .int .u64 limit, .slice draws.a draws.len draws.cap] [.one (.ptr)] K w Try.func44 h5 h2 h4 h1
  exact cast (by kernel_rfl : callK Try.prog 44 (List.toArray (α := Value) [.pointer d, .int .u64 limit, .slice draws.a draws.len draws.cap]) [.one (.ptr)] K w = C_ref09_New d limit draws w K) h6

def F_ref09_Regs_Reserve (r : Option Addr) (w : World) (K : Int → Int → World → Prop) : Prop :=
  ∃ S : World → Prop, S (drewW w) ∧
  Nn r fun a =>
  ∃ vv : Int, Held S (a.add 2) (.int .u64 vv) ∧
  Nn r fun a_1 =>
  ∃ vv_1 : Int, Held S (a_1.add 1) (.int .u64 vv_1) ∧
  If (decide (vv ≥ vv_1)) (
  K 0 90 ((drewW w))) (
  Nn r fun a_2 =>
  ∃ vv_2 : Option Addr, Cell (drewW w) a_2 (.pointer vv_2) ∧
  C_ref08_Disk_Step vv_2 (drewW w) fun r_1 w1 =>
  If (r_1 != 0) (
  K 0 r_1 w1) (
  Nn r fun a_3 =>
  ∃ vv_3 : Int, Cell w1 (a_3.add 2) (.int .u64 vv_3) ∧
  Ar .u64 (vv_3 + 1) fun z =>
  Nn r fun a_4 =>
  St1 w1 (a_4.add 2) (.int .u64 z) fun w2 =>
  Nn r fun a_5 =>
  ∃ vv_4 : Int, Cell w2 (a_5.add 2) (.int .u64 vv_4) ∧
  K vv_4 0 w2))
def A_ref09_Regs_Reserve : Ann := (.seq .nil (.seq (.seq (.draw (.take 0 (.take 1 (.take 2 (.take 3 (.take 4 (.take 5 (.take 6 (.take 7 (.take 8 .fin)))))))))) (.cond (.seq .nil .nil) .nil)) (.seq .nil (.seq (.seq .nil (.cond (.seq .nil .nil) .nil)) (.seq .nil (.seq .nil .nil))))))
theorem S_ref09_Regs_Reserve {r : Option Addr} {w : World} {K : Int → Int → World → Prop} (h : F_ref09_Regs_Reserve r w K) : C_ref09_Regs_Reserve r w K := by
  have h1 : wpc Try.prog A_ref09_Regs_Reserve (Try.f45.body.getD .skip) (retK Try.prog [.one (.int .u64), .one (.int .i64)] Try.f45.results.toList K) (argEnv [.pointer r]) w := cast (by kernel_rfl : F_ref09_Regs_Reserve r w K = wpc Try.prog A_ref09_Regs_Reserve (Try.f45.body.getD .skip) (retK Try.prog [.one (.int .u64), .one (.int .i64)] Try.f45.results.toList K) (argEnv [.pointer r]) w) h
  have h2 : chk Try.prog Try.f45.ntmps A_ref09_Regs_Reserve (Try.f45.body.getD .skip) = true := by kernel_rfl
  have h4 : Nat.ble (List.length (α := Value) [.pointer r]) Try.f45.ntmps = true := by kernel_rfl
  have h5 : Try.f45.body = some (Try.f45.body.getD .skip) := by kernel_rfl
  have h6 := @fn_sound Try.prog 45 Try.f45 (Try.f45.body.getD .skip) A_ref09_Regs_Reserve [.pointer r] [.one (.int .u64), .one (.int .i64)] K w Try.func45 h5 h2 h4 h1
  exact cast (by kernel_rfl : callK Try.prog 45 (List.toArray (α := Value) [.pointer r]) [.one (.int .u64), .one (.int .i64)] K w = C_ref09_Regs_Reserve r w K) h6

def F_ref09_Regs_Advance (r : Option Addr) (n : Int) (w : World) (K : Int → World → Prop) : Prop :=
  ∃ J0 : World → Prop, (
  Nn r fun a =>
  ∃ vv : Int, Cell w (a.add 3) (.int .u64 vv) ∧
  If (decide (n ≤ vv)) (
  K 2 w) (
  Nn r fun a_1 =>
  ∃ vv_1 : Int, Cell w (a_1.add 2) (.int .u64 vv_1) ∧
  If (decide (n > vv_1)) (
  K 2 w) (
  J0 w))) ∧ ∀ (_ : Env) (w1 : World), J0 w1 →
  Nn r fun a_2 =>
  ∃ vv_2 : Option Addr, Cell w1 a_2 (.pointer vv_2) ∧
  C_ref08_Disk_Step vv_2 w1 fun r_1 w2 =>
  If (r_1 == 0) (
  Nn r fun a_3 =>
  St1 w2 (a_3.add 3) (.int .u64 n) fun w3 =>
  K r_1 w3) (
  K r_1 w2)
def A_ref09_Regs_Advance : Ann := (.seq .nil (.join [] 1048528 (.seq .nil (.cond (.seq .nil .nil) .nil)) (.seq .nil (.seq (.seq .nil (.cond .nil .nil)) (.seq .nil .nil)))))
theorem S_ref09_Regs_Advance {r : Option Addr} {n : Int} {w : World} {K : Int → World → Prop} (h : F_ref09_Regs_Advance r n w K) : C_ref09_Regs_Advance r n w K := by
  have h1 : wpc Try.prog A_ref09_Regs_Advance (Try.f46.body.getD .skip) (retK Try.prog [.one (.int .i64)] Try.f46.results.toList K) (argEnv [.pointer r, .int .u64 n]) w := cast (by kernel_rfl : F_ref09_Regs_Advance r n w K = wpc Try.prog A_ref09_Regs_Advance (Try.f46.body.getD .skip) (retK Try.prog [.one (.int .i64)] Try.f46.results.toList K) (argEnv [.pointer r, .int .u64 n]) w) h
  have h2 : chk Try.prog Try.f46.ntmps A_ref09_Regs_Advance (Try.f46.body.getD .skip) = true := by kernel_rfl
  have h4 : Nat.ble (List.length (α := Value) [.pointer r, .int .u64 n]) Try.f46.ntmps = true := by kernel_rfl
  have h5 : Try.f46.body = some (Try.f46.body.getD .skip) := by kernel_rfl
  have h6 := @fn_sound Try.prog 46 Try.f46 (Try.f46.body.getD .skip) A_ref09_Regs_Advance [.pointer r, .int .u64 n] [.one (.int .i64)] K w Try.func46 h5 h2 h4 h1
  exact cast (by kernel_rfl : callK Try.prog 46 (List.toArray (α := Value) [.pointer r, .int .u64 n]) [.one (.int .i64)] K w = C_ref09_Regs_Advance r n w K) h6

def F_ref09_Regs_Draw (r : Option Addr) (size : Int) (w : World) (K : Sl → Int → World → Prop) : Prop :=
  ∃ J1 : World → Prop, (
  If (decide (size < 1)) (
  K ⟨none, 0, 0⟩ 2 w) (
  If (decide (size > 64)) (
  K ⟨none, 0, 0⟩ 2 w) (
  J1 w))) ∧ ∀ (_ : Env) (w1 : World), J1 w1 →
  ∃ J0 : World → Prop, (
  Nn r fun a =>
  ∃ vv : Sl, Cell w1 (a.add 4) (.slice vv.a vv.len vv.cap) ∧
  If (((vv.len : Int)) == 0) (
  K ⟨none, 0, 0⟩ 91 w1) (
  Nn r fun a_1 =>
  ∃ vv_1 : Sl, Cell w1 (a_1.add 4) (.slice vv_1.a vv_1.len vv_1.cap) ∧
  Ix vv_1.a vv_1.len 0 1 fun a_2 =>
  ∃ vv_2 : Sl, Cell w1 a_2 (.slice vv_2.a vv_2.len vv_2.cap) ∧
  If (decide (((vv_2.len : Int)) < size)) (
  K ⟨none, 0, 0⟩ 91 w1) (
  J0 w1))) ∧ ∀ (_ : Env) (w2 : World), J0 w2 →
  Nn r fun a_3 =>
  ∃ vv_3 : Sl, Cell w2 (a_3.add 4) (.slice vv_3.a vv_3.len vv_3.cap) ∧
  Ix vv_3.a vv_3.len 0 1 fun a_4 =>
  ∃ vv_4 : Sl, Cell w2 a_4 (.slice vv_4.a vv_4.len vv_4.cap) ∧
  Cut vv_4 0 size (((vv_4.cap : Nat) : Int)) 1 fun s =>
  C_ref01_Copy s w2 fun r_1 w3 =>
  Nn r fun a_5 =>
  ∃ vv_5 : Sl, Cell w3 (a_5.add 4) (.slice vv_5.a vv_5.len vv_5.cap) ∧
  Cut vv_5 1 (((vv_5.len : Nat) : Int)) (((vv_5.cap : Nat) : Int)) 1 fun s_1 =>
  Nn r fun a_6 =>
  St1 w3 (a_6.add 4) (.slice s_1.a s_1.len s_1.cap) fun w4 =>
  K r_1 0 w4
def A_ref09_Regs_Draw : Ann := (.seq .nil (.join [] 8112 (.seq .nil (.cond (.seq .nil .nil) .nil)) (.join [] 1073733680 (.seq .nil (.cond (.seq .nil .nil) .nil)) (.seq .nil (.seq .nil (.seq .nil .nil))))))
theorem S_ref09_Regs_Draw {r : Option Addr} {size : Int} {w : World} {K : Sl → Int → World → Prop} (h : F_ref09_Regs_Draw r size w K) : C_ref09_Regs_Draw r size w K := by
  have h1 : wpc Try.prog A_ref09_Regs_Draw (Try.f47.body.getD .skip) (retK Try.prog [.one (.sl), .one (.int .i64)] Try.f47.results.toList K) (argEnv [.pointer r, .int .i64 size]) w := cast (by kernel_rfl : F_ref09_Regs_Draw r size w K = wpc Try.prog A_ref09_Regs_Draw (Try.f47.body.getD .skip) (retK Try.prog [.one (.sl), .one (.int .i64)] Try.f47.results.toList K) (argEnv [.pointer r, .int .i64 size]) w) h
  have h2 : chk Try.prog Try.f47.ntmps A_ref09_Regs_Draw (Try.f47.body.getD .skip) = true := by kernel_rfl
  have h4 : Nat.ble (List.length (α := Value) [.pointer r, .int .i64 size]) Try.f47.ntmps = true := by kernel_rfl
  have h5 : Try.f47.body = some (Try.f47.body.getD .skip) := by kernel_rfl
  have h6 := @fn_sound Try.prog 47 Try.f47 (Try.f47.body.getD .skip) A_ref09_Regs_Draw [.pointer r, .int .i64 size] [.one (.sl), .one (.int .i64)] K w Try.func47 h5 h2 h4 h1
  exact cast (by kernel_rfl : callK Try.prog 47 (List.toArray (α := Value) [.pointer r, .int .i64 size]) [.one (.sl), .one (.int .i64)] K w = C_ref09_Regs_Draw r size w K) h6

def F_law09_RegsPlays (limit : Int) (draws : Sl) (l : Sl) (w : World) (K : Bool → World → Prop) : Prop :=
  C_law09_heavy draws l w fun r w1 =>
  If r (
  C_law09_known  w1 fun r_1 w2 =>
  K r_1 w2) (
  C_disk_New 8 w1 fun r0_1 r1 w3 =>
  ∃ J2 : World → Prop, (
  If (Option.isNone r0_1) (
  K false w3) (
  If (r1 != 0) (
  K false w3) (
  J2 w3))) ∧ ∀ (_ : Env) (w4 : World), J2 w4 →
  ∃ I3 : Nat → Sl → Int → World → Prop, (∃ m, I3 m ⟨none, 0, 0⟩ 0 w4) ∧ ∀ (_ : Env) (m0 : Nat) (inv : Sl) (t : Int) (w5 : World), I3 m0 inv t w5 →
  If (decide (t < ((draws.len : Int)))) (
  Ix draws.a draws.len t 1 fun a =>
  ∃ vv : Sl, Cell w5 a (.slice vv.a vv.len vv.cap) ∧
  C_ref01_Copy vv w5 fun r_2 w6 =>
  NewW w6 (.cells [.slice r_2.a r_2.len r_2.cap].toArray 23) fun b w7 =>
  AppW Try.prog 49 49 inv (.slice (some (Addr.mk b 0 none)) 1 1) (fun s w8 =>
  Ar .i64 (t + 1) fun z =>
  ∃ m1, m1 < m0 ∧ I3 m1 s z w8) w7) (
  C_regs_New r0_1 limit inv w5 fun r0_2 r1_1 w9 =>
  ∃ J1 : World → Prop, (
  If (Option.isNone r0_2) (
  K false w9) (
  If (r1_1 != 0) (
  K false w9) (
  J1 w9))) ∧ ∀ (_ : Env) (w10 : World), J1 w10 →
  ∃ I2 : Nat → Int → World → Prop, (∃ m, I2 m 0 w10) ∧ ∀ (_ : Env) (m0_1 : Nat) (t_1 : Int) (w11 : World), I2 m0_1 t_1 w11 →
  If (decide (t_1 < ((inv.len : Int)))) (
  Ix inv.a inv.len t_1 1 fun a_1 =>
  ∃ vv_1 : Sl, Cell w11 a_1 (.slice vv_1.a vv_1.len vv_1.cap) ∧
  ∃ I1 : Nat → Int → World → Prop, (∃ m, I1 m 0 w11) ∧ ∀ (_ : Env) (m0_2 : Nat) (t_2 : Int) (w12 : World), I1 m0_2 t_2 w12 →
  If (decide (t_2 < ((vv_1.len : Int)))) (
  Ix inv.a inv.len t_1 1 fun a_2 =>
  ∃ vv_2 : Sl, Cell w12 a_2 (.slice vv_2.a vv_2.len vv_2.cap) ∧
  Ix vv_2.a vv_2.len t_2 1 fun a_3 =>
  ∃ vv_3 : Int, Cell w12 a_3 (.int .u8 vv_3) ∧
  Nm (bitI .xor .u8 vv_3 255) fun z_1 =>
  Ix vv_2.a vv_2.len t_2 1 fun a_4 =>
  St1 w12 a_4 (.int .u8 z_1) fun w13 =>
  Ar .i64 (t_2 + 1) fun z_2 =>
  ∃ m1_2, m1_2 < m0_2 ∧ I1 m1_2 z_2 w13) (
  Ar .i64 (t_1 + 1) fun z_3 =>
  ∃ m1_1, m1_1 < m0_1 ∧ I2 m1_1 z_3 w12)) (
  C_ref08_New 8 w11 fun r_3 w14 =>
  C_ref09_New r_3 limit draws w14 fun r_4 w15 =>
  ∃ I0 : Nat → Int → World → Prop, (∃ m, I0 m 0 w15) ∧ ∀ (_ : Env) (m0_3 : Nat) (t_3 : Int) (w16 : World), I0 m0_3 t_3 w16 →
  If (decide (t_3 < ((l.len : Int)))) (
  ∃ J0 : Bool → World → Prop, (
  Ix l.a l.len t_3 8 fun a_5 =>
  ∃ vv_4 : Int, Cell w16 a_5 (.int .i64 vv_4) ∧
  If (vv_4 == 1) (
  C_regs_Regs_Reserve r0_2 w16 fun r0_3 r1_2 w17 =>
  C_ref09_Regs_Reserve r_4 w17 fun r0_4 r1_3 w18 =>
  If (r0_3 == r0_4) (
  J0 (r1_2 == r1_3) w18) (
  J0 false w18)) (
  If (vv_4 == 2) (
  ∃ S : World → Prop, S (drewW w16) ∧
  Ix l.a l.len t_3 8 fun a_6 =>
  ∃ vv_5 : Int, Held S (a_6.add 1) (.int .u64 vv_5) ∧
  Ix l.a l.len t_3 8 fun a_7 =>
  ∃ vv_6 : Int, Held S (a_7.add 1) (.int .u64 vv_6) ∧
  C_regs_Regs_Advance r0_2 vv_5 (drewW w16) fun r_5 w19 =>
  S w19 ∧
  C_ref09_Regs_Advance r_4 vv_6 w19 fun r_6 w20 =>
  S w20 ∧
  J0 (r_5 == r_6) w20) (
  If (vv_4 == 3) (
  Ix l.a l.len t_3 8 fun a_8 =>
  ∃ vv_7 : Int, Cell w16 (a_8.add 2) (.int .i64 vv_7) ∧
  C_regs_Regs_Draw r0_2 vv_7 w16 fun r0_5 r1_4 w21 =>
  Ix l.a l.len t_3 8 fun a_9 =>
  ∃ vv_8 : Int, Cell w21 (a_9.add 2) (.int .i64 vv_8) ∧
  C_ref09_Regs_Draw r_4 vv_8 w21 fun r0_6 r1_5 w22 =>
  C_ref01_Same r0_5 r0_6 w22 fun r_7 w23 =>
  If r_7 (
  J0 (r1_4 == r1_5) w23) (
  J0 false w23)) (
  Ix l.a l.len t_3 8 fun a_10 =>
  ∃ vv_9 : Int, Cell w16 (a_10.add 3) (.int .i64 vv_9) ∧
  If (vv_9 != 9) (
  Ix l.a l.len t_3 8 fun a_11 =>
  ∃ c : Int, Cell w16 (a_11.add 3) (.int .i64 c) ∧
  ∃ c_1 : Int, Cell w16 ((a_11.add 3).add 1) (.int .i64 c_1) ∧
  ∃ c_2 : Int, Cell w16 ((a_11.add 3).add 2) (.int .i64 c_2) ∧
  ∃ c_3 : Sl, Cell w16 ((a_11.add 3).add 3) (.slice c_3.a c_3.len c_3.cap) ∧
  ∃ c_4 : Sl, Cell w16 ((a_11.add 3).add 4) (.slice c_4.a c_4.len c_4.cap) ∧
  C_law08_Does r0_1 r_3 c c_1 c_2 c_3 c_4 w16 fun _r0_7 r1_6 w24 =>
  J0 r1_6 w24) (
  J0 true w16))))) ∧ ∀ (_ : Env) (ok : Bool) (w25 : World), J0 ok w25 →
  ∃ S : World → Prop, S (drewW w25) ∧
  If (!ok) (
  K false ((drewW w25))) (
  Nn r_4 fun a_12 =>
  ∃ vv_10 : Int, Held S (a_12.add 2) (.int .u64 vv_10) ∧
  C_regs_Regs_Reserved r0_2 (drewW w25) fun r_8 w26 =>
  S w26 ∧
  If (r_8 != vv_10) (
  K false w26) (
  Nn r_4 fun a_13 =>
  ∃ vv_11 : Int, Held S (a_13.add 3) (.int .u64 vv_11) ∧
  C_regs_Regs_Committed r0_2 w26 fun r_9 w27 =>
  S w27 ∧
  If (r_9 != vv_11) (
  K false w27) (
  Nn r_4 fun a_14 =>
  ∃ vv_12 : Sl, Held S (a_14.add 4) (.slice vv_12.a vv_12.len vv_12.cap) ∧
  C_regs_Regs_Left r0_2 w27 fun r_10 w28 =>
  S w28 ∧
  If (r_10 != ((vv_12.len : Int))) (
  K false w28) (
  Nn r_3 fun a_15 =>
  ∃ vv_13 : Int, Held S (a_15.add 3) (.int .u64 vv_13) ∧
  C_disk_Disk_Steps r0_1 w28 fun r_11 w29 =>
  S w29 ∧
  If (r_11 != vv_13) (
  K false w29) (
  Nn r_3 fun a_16 =>
  ∃ vv_14 : Bool, Held S (a_16.add 6) (.bool vv_14) ∧
  C_disk_Disk_Down r0_1 w29 fun r_12 w30 =>
  S w30 ∧
  If (!(r_12 == vv_14)) (
  K false w30) (
  Ar .i64 (t_3 + 1) fun z_4 =>
  ∃ m1_3, m1_3 < m0_3 ∧ I0 m1_3 z_4 w30))))))) (
  C_law09_known  w16 fun r_13 w31 =>
  K r_13 w31))))
def A_law09_RegsPlays : Ann := (.seq .nil (.seq (.seq .nil (.cond (.seq .nil .nil) .nil)) (.seq .nil (.join [] 2164663517248 (.seq .nil (.cond (.seq .nil .nil) .nil)) (.seq .nil (.seq (.seq .nil (.block (.loop [(9, .sl), (43, .int .i64)] 36020000925943296 (.seq .nil (.seq (.cond .nil .nil) (.seq (.block (.seq .nil .nil)) .nil)))))) (.seq .nil (.join [] 290536219160925438016 (.seq .nil (.cond (.seq .nil .nil) .nil)) (.seq (.seq .nil (.block (.loop [(70, .int .i64)] 4951758976549900382185218048 (.seq .nil (.seq (.cond .nil .nil) (.seq (.block (.seq .nil (.seq .nil (.block (.loop [(78, .int .i64)] 2475577847115856892504588288 (.seq .nil (.seq (.cond .nil .nil) (.seq (.block (.seq .nil .nil)) .nil)))))))) .nil)))))) (.seq .nil (.seq .nil (.seq (.seq .nil (.block (.loop [(99, .int .i64)] 3533694129556768659166595001485837031654967159925937802128511654367723584 (.seq .nil (.seq (.cond .nil .nil) (.seq (.block (.seq .nil (.seq .nil (.join [(18, .bool)] 6277101735386680763835789418137064015189437838477355646976 (.seq .nil (.block (.seq .nil (.cond (.seq .nil (.seq .nil .nil)) (.seq .nil (.cond (.draw (.take 0 (.take 1 (.take 2 (.take 3 (.take 4 (.take 5 (.take 7 (.take 8 (.take 9 (.take 10 (.take 11 (.take 12 (.one 6 (.one 13 (.take 14 (.take 15 .fin))))))))))))))))) (.seq .nil (.cond (.seq .nil (.seq .nil .nil)) (.seq .nil (.cond .nil .nil)))))))))) (.seq (.draw (.take 0 (.take 1 (.take 2 (.take 3 (.take 5 (.take 6 (.take 7 (.take 8 (.one 4 (.take 9 (.take 10 (.take 11 (.take 12 (.take 14 (.take 15 (.take 16 (.take 17 (.one 13 (.take 18 (.take 19 (.take 20 (.take 21 (.take 23 (.take 24 (.take 25 (.take 26 (.take 27 (.one 22 (.take 28 (.take 29 (.take 30 (.take 31 (.take 33 (.take 34 (.take 35 (.take 36 (.one 32 (.take 37 (.take 38 (.take 39 (.take 40 (.take 42 (.take 43 (.take 44 (.take 45 (.one 41 (.take 46 (.take 47 .fin))))))))))))))))))))))))))))))))))))))))))))))))) (.cond (.seq .nil .nil) .nil)))))) .nil)))))) (.seq .nil .nil)))))))))))))
theorem S_law09_RegsPlays {limit : Int} {draws : Sl} {l : Sl} {w : World} {K : Bool → World → Prop} (h : F_law09_RegsPlays limit draws l w K) : C_law09_RegsPlays limit draws l w K := by
  have h1 : wpc Try.prog A_law09_RegsPlays (Try.f11.body.getD .skip) (retK Try.prog [.one (.bool)] Try.f11.results.toList K) (argEnv [.int .u64 limit, .slice draws.a draws.len draws.cap, .slice l.a l.len l.cap]) w := cast (by kernel_rfl : F_law09_RegsPlays limit draws l w K = wpc Try.prog A_law09_RegsPlays (Try.f11.body.getD .skip) (retK Try.prog [.one (.bool)] Try.f11.results.toList K) (argEnv [.int .u64 limit, .slice draws.a draws.len draws.cap, .slice l.a l.len l.cap]) w) h
  have h2 : chk Try.prog Try.f11.ntmps A_law09_RegsPlays (Try.f11.body.getD .skip) = true := by kernel_rfl
  have h4 : Nat.ble (List.length (α := Value) [.int .u64 limit, .slice draws.a draws.len draws.cap, .slice l.a l.len l.cap]) Try.f11.ntmps = true := by kernel_rfl
  have h5 : Try.f11.body = some (Try.f11.body.getD .skip) := by kernel_rfl
  have h6 := @fn_sound Try.prog 11 Try.f11 (Try.f11.body.getD .skip) A_law09_RegsPlays [.int .u64 limit, .slice draws.a draws.len draws.cap, .slice l.a l.len l.cap] [.one (.bool)] K w Try.func11 h5 h2 h4 h1
  exact cast (by kernel_rfl : callK Try.prog 11 (List.toArray (α := Value) [.int .u64 limit, .slice draws.a draws.len draws.cap, .slice l.a l.len l.cap]) [.one (.bool)] K w = C_law09_RegsPlays limit draws l w K) h6

def F_disk_Disk_Waiting (d : Option Addr) (w : World) (K : Int → World → Prop) : Prop :=
  If (Option.isNone d) (
  K 0 w) (
  Nn d fun a =>
  ∃ vv : Sl, Cell w (a.add 2) (.slice vv.a vv.len vv.cap) ∧
  K (vv.len : Int) w)
def A_disk_Disk_Waiting : Ann := (.seq .nil (.seq (.seq .nil (.cond (.seq .nil .nil) .nil)) (.seq .nil .nil)))
theorem S_disk_Disk_Waiting {d : Option Addr} {w : World} {K : Int → World → Prop} (h : F_disk_Disk_Waiting d w K) : C_disk_Disk_Waiting d w K := by
  have h1 : wpc Try.prog A_disk_Disk_Waiting (Try.f17.body.getD .skip) (retK Try.prog [.one (.int .i64)] Try.f17.results.toList K) (argEnv [.pointer d]) w := cast (by kernel_rfl : F_disk_Disk_Waiting d w K = wpc Try.prog A_disk_Disk_Waiting (Try.f17.body.getD .skip) (retK Try.prog [.one (.int .i64)] Try.f17.results.toList K) (argEnv [.pointer d]) w) h
  have h2 : chk Try.prog Try.f17.ntmps A_disk_Disk_Waiting (Try.f17.body.getD .skip) = true := by kernel_rfl
  have h4 : Nat.ble (List.length (α := Value) [.pointer d]) Try.f17.ntmps = true := by kernel_rfl
  have h5 : Try.f17.body = some (Try.f17.body.getD .skip) := by kernel_rfl
  have h6 := @fn_sound Try.prog 17 Try.f17 (Try.f17.body.getD .skip) A_disk_Disk_Waiting [.pointer d] [.one (.int .i64)] K w Try.func17 h5 h2 h4 h1
  exact cast (by kernel_rfl : callK Try.prog 17 (List.toArray (α := Value) [.pointer d]) [.one (.int .i64)] K w = C_disk_Disk_Waiting d w K) h6

def F_law08_known  (w : World) (K : Bool → World → Prop) : Prop :=
  C_disk_New 8 w fun r0_1 r1 w1 =>
  ∃ J0 : World → Prop, (
  If (Option.isNone r0_1) (
  K false w1) (
  If (r1 != 0) (
  K false w1) (
  C_law08_full 7 w1 fun r w2 =>
  C_disk_Disk_Write r0_1 1 r w2 fun r_1 w3 =>
  If (r_1 != 0) (
  K false w3) (
  C_disk_Disk_Waiting r0_1 w3 fun r_2 w4 =>
  If (r_2 != 1) (
  K false w4) (
  NewW w4 (.cells [.int .u8 2].toArray 5) fun b w5 =>
  C_disk_Disk_Crash r0_1 ⟨some (Addr.mk b 0 none), 1, 1⟩ w5 fun r_3 w6 =>
  If (r_3 != 0) (
  K false w6) (
  J0 w6)))))) ∧ ∀ (_ : Env) (w7 : World), J0 w7 →
  C_disk_Disk_Read r0_1 1 w7 fun r0_2 r1_1 w8 =>
  If (r1_1 == 0) (
  If (((r0_2.len : Int)) == 256) (
  Ix r0_2.a r0_2.len 63 1 fun a =>
  ∃ vv : Int, Cell w8 a (.int .u8 vv) ∧
  If (vv == 0) (
  Ix r0_2.a r0_2.len 64 1 fun a_1 =>
  ∃ vv_1 : Int, Cell w8 a_1 (.int .u8 vv_1) ∧
  If (vv_1 == 7) (
  Ix r0_2.a r0_2.len 127 1 fun a_2 =>
  ∃ vv_2 : Int, Cell w8 a_2 (.int .u8 vv_2) ∧
  If (vv_2 == 7) (
  Ix r0_2.a r0_2.len 128 1 fun a_3 =>
  ∃ vv_3 : Int, Cell w8 a_3 (.int .u8 vv_3) ∧
  K (vv_3 == 0) w8) (
  K false w8)) (
  K false w8)) (
  K false w8)) (
  K false w8)) (
  K false w8)
def A_law08_known : Ann := (.seq .nil (.seq .nil (.join [] 4294966785 (.seq .nil (.cond (.seq .nil .nil) .nil)) (.seq .nil (.seq .nil .nil)))))
theorem S_law08_known  {w : World} {K : Bool → World → Prop} (h : F_law08_known  w K) : C_law08_known  w K := by
  have h1 : wpc Try.prog A_law08_known (Try.f12.body.getD .skip) (retK Try.prog [.one (.bool)] Try.f12.results.toList K) (argEnv []) w := cast (by kernel_rfl : F_law08_known  w K = wpc Try.prog A_law08_known (Try.f12.body.getD .skip) (retK Try.prog [.one (.bool)] Try.f12.results.toList K) (argEnv []) w) h
  have h2 : chk Try.prog Try.f12.ntmps A_law08_known (Try.f12.body.getD .skip) = true := by kernel_rfl
  have h4 : Nat.ble (List.length (α := Value) []) Try.f12.ntmps = true := by kernel_rfl
  have h5 : Try.f12.body = some (Try.f12.body.getD .skip) := by kernel_rfl
  have h6 := @fn_sound Try.prog 12 Try.f12 (Try.f12.body.getD .skip) A_law08_known [] [.one (.bool)] K w Try.func12 h5 h2 h4 h1
  exact cast (by kernel_rfl : callK Try.prog 12 (List.toArray (α := Value) []) [.one (.bool)] K w = C_law08_known  w K) h6

def F_law08_DiskSynced (first : Sl) (thenv : Sl) (masks : Sl) (w : World) (K : Bool → World → Prop) : Prop :=
  ∃ J4 : World → Prop, (
  If (decide (((first.len : Int)) > 60)) (
  C_law08_known  w fun r w1 =>
  K r w1) (
  If (decide (((thenv.len : Int)) > 60)) (
  C_law08_known  w fun r_1 w2 =>
  K r_1 w2) (
  J4 w))) ∧ ∀ (_ : Env) (w3 : World), J4 w3 →
  C_disk_New 8 w3 fun r0_1 r1 w4 =>
  ∃ J3 : World → Prop, (
  If (Option.isNone r0_1) (
  K false w4) (
  If (r1 != 0) (
  K false w4) (
  J3 w4))) ∧ ∀ (_ : Env) (w5 : World), J3 w5 →
  NewW w5 (.cells [.slice none 0 0, .slice none 0 0, .slice none 0 0, .slice none 0 0, .slice none 0 0, .slice none 0 0, .slice none 0 0, .slice none 0 0].toArray 29) fun b w6 =>
  ∃ I5 : Nat → Int → World → Prop, (∃ m, I5 m 0 w6) ∧ ∀ (_ : Env) (m0 : Nat) (t : Int) (w7 : World), I5 m0 t w7 →
  If (decide (t < 8)) (
  C_law08_full 0 w7 fun r_2 w8 =>
  (0 : Int) ≤ t ∧ t < ((8 : Nat) : Int) ∧
  St1 w8 ((Addr.mk b 0 none).add (Int.toNat t * 1)) (.slice r_2.a r_2.len r_2.cap) fun w9 =>
  Ar .i64 (t + 1) fun z =>
  ∃ m1, m1 < m0 ∧ I5 m1 z w9) (
  ∃ I4 : Nat → Int → World → Prop, (∃ m, I4 m 0 w7) ∧ ∀ (_ : Env) (m0_1 : Nat) (t_1 : Int) (w10 : World), I4 m0_1 t_1 w10 →
  If (decide (t_1 < ((first.len : Int)))) (
  Ix first.a first.len t_1 5 fun a =>
  ∃ c : Int, Cell w10 a (.int .i64 c) ∧
  ∃ c_1 : Int, Cell w10 (a.add 1) (.int .i64 c_1) ∧
  ∃ c_2 : Int, Cell w10 (a.add 2) (.int .i64 c_2) ∧
  ∃ c_3 : Sl, Cell w10 (a.add 3) (.slice c_3.a c_3.len c_3.cap) ∧
  ∃ c_4 : Sl, Cell w10 (a.add 4) (.slice c_4.a c_4.len c_4.cap) ∧
  NewW w10 (.cells [.int .i64 0, .int .i64 0, .int .i64 0, .slice none 0 0, .slice none 0 0].toArray 32) fun b_1 w11 =>
  List.length (α := Value) [.int .i64 c, .int .i64 c_1, .int .i64 c_2, .slice c_3.a c_3.len c_3.cap, .slice c_4.a c_4.len c_4.cap] = 5 ∧ StN w11 (Addr.mk b_1 0 none) [.int .i64 c, .int .i64 c_1, .int .i64 c_2, .slice c_3.a c_3.len c_3.cap, .slice c_4.a c_4.len c_4.cap] fun w12 =>
  ∃ S : World → Prop, S (drewW w12) ∧
  ∃ vv : Int, Held S ((Addr.mk b_1 0 none).add 1) (.int .i64 vv) ∧
  Nm (bitI .and .i64 vv 7) fun z_1 =>
  ∃ vv_1 : Int, Held S ((Addr.mk b_1 0 none).add 2) (.int .i64 vv_1) ∧
  Ar .u8 vv_1 fun z_2 =>
  C_law08_full z_2 (drewW w12) fun r_3 w13 =>
  S w13 ∧
  C_disk_Disk_Write r0_1 z_1 r_3 w13 fun r_4 w14 =>
  S w14 ∧
  If (r_4 != 0) (
  K false w14) (
  ∃ S : World → Prop, S (drewW w14) ∧
  ∃ vv_2 : Int, Held S ((Addr.mk b_1 0 none).add 1) (.int .i64 vv_2) ∧
  Nm (bitI .and .i64 vv_2 7) fun z_3 =>
  ∃ vv_3 : Int, Held S ((Addr.mk b_1 0 none).add 2) (.int .i64 vv_3) ∧
  Ar .u8 vv_3 fun z_4 =>
  C_law08_full z_4 (drewW w14) fun r_5 w15 =>
  S w15 ∧
  (0 : Int) ≤ z_3 ∧ z_3 < ((8 : Nat) : Int) ∧
  St1 w15 ((Addr.mk b 0 none).add (Int.toNat z_3 * 1)) (.slice r_5.a r_5.len r_5.cap) fun w16 =>
  Ar .i64 (t_1 + 1) fun z_5 =>
  ∃ m1_1, m1_1 < m0_1 ∧ I4 m1_1 z_5 w16)) (
  C_disk_Disk_Sync r0_1 w10 fun r_6 w17 =>
  If (r_6 != 0) (
  K false w17) (
  NewW w17 (.cells [.slice none 0 0, .slice none 0 0, .slice none 0 0, .slice none 0 0, .slice none 0 0, .slice none 0 0, .slice none 0 0, .slice none 0 0].toArray 29) fun b_2 w18 =>
  ∃ I3 : Nat → Int → World → Prop, (∃ m, I3 m 0 w18) ∧ ∀ (_ : Env) (m0_2 : Nat) (t_2 : Int) (w19 : World), I3 m0_2 t_2 w19 →
  If (decide (t_2 < ((thenv.len : Int)))) (
  Ix thenv.a thenv.len t_2 5 fun a_1 =>
  ∃ c_5 : Int, Cell w19 a_1 (.int .i64 c_5) ∧
  ∃ c_6 : Int, Cell w19 (a_1.add 1) (.int .i64 c_6) ∧
  ∃ c_7 : Int, Cell w19 (a_1.add 2) (.int .i64 c_7) ∧
  ∃ c_8 : Sl, Cell w19 (a_1.add 3) (.slice c_8.a c_8.len c_8.cap) ∧
  ∃ c_9 : Sl, Cell w19 (a_1.add 4) (.slice c_9.a c_9.len c_9.cap) ∧
  NewW w19 (.cells [.int .i64 0, .int .i64 0, .int .i64 0, .slice none 0 0, .slice none 0 0].toArray 32) fun b_3 w20 =>
  List.length (α := Value) [.int .i64 c_5, .int .i64 c_6, .int .i64 c_7, .slice c_8.a c_8.len c_8.cap, .slice c_9.a c_9.len c_9.cap] = 5 ∧ StN w20 (Addr.mk b_3 0 none) [.int .i64 c_5, .int .i64 c_6, .int .i64 c_7, .slice c_8.a c_8.len c_8.cap, .slice c_9.a c_9.len c_9.cap] fun w21 =>
  ∃ S : World → Prop, S (drewW w21) ∧
  ∃ vv_4 : Int, Held S ((Addr.mk b_3 0 none).add 1) (.int .i64 vv_4) ∧
  Nm (bitI .and .i64 vv_4 7) fun z_6 =>
  ∃ vv_5 : Int, Held S ((Addr.mk b_3 0 none).add 2) (.int .i64 vv_5) ∧
  Ar .u8 vv_5 fun z_7 =>
  C_law08_full z_7 (drewW w21) fun r_7 w22 =>
  S w22 ∧
  C_disk_Disk_Write r0_1 z_6 r_7 w22 fun r_8 w23 =>
  S w23 ∧
  If (r_8 != 0) (
  K false w23) (
  ∃ S : World → Prop, S (drewW w23) ∧
  ∃ vv_6 : Int, Held S ((Addr.mk b_3 0 none).add 1) (.int .i64 vv_6) ∧
  Nm (bitI .and .i64 vv_6 7) fun z_8 =>
  ∃ vv_7 : Int, Held S ((Addr.mk b_3 0 none).add 1) (.int .i64 vv_7) ∧
  Nm (bitI .and .i64 vv_7 7) fun z_9 =>
  (0 : Int) ≤ z_9 ∧ z_9 < ((8 : Nat) : Int) ∧
  ∃ vv_8 : Sl, Held S ((Addr.mk b_2 0 none).add (Int.toNat z_9 * 1)) (.slice vv_8.a vv_8.len vv_8.cap) ∧
  ∃ vv_9 : Int, Held S ((Addr.mk b_3 0 none).add 2) (.int .i64 vv_9) ∧
  Ar .u8 vv_9 fun z_10 =>
  NewW (drewW w23) (.cells [.int .u8 z_10].toArray 5) fun b_4 w24 =>
  S w24 ∧
  AppW Try.prog 23 23 vv_8 (.slice (some (Addr.mk b_4 0 none)) 1 1) (fun s w25 =>
  S w25 ∧
  (0 : Int) ≤ z_8 ∧ z_8 < ((8 : Nat) : Int) ∧
  St1 w25 ((Addr.mk b_2 0 none).add (Int.toNat z_8 * 1)) (.slice s.a s.len s.cap) fun w26 =>
  Ar .i64 (t_2 + 1) fun z_11 =>
  ∃ m1_2, m1_2 < m0_2 ∧ I3 m1_2 z_11 w26) w24)) (
  ∃ J2 : World → Prop, (
  C_disk_Disk_Waiting r0_1 w19 fun r_9 w27 =>
  If (r_9 != ((thenv.len : Int))) (
  K false w27) (
  C_disk_Disk_Crash r0_1 masks w27 fun r_10 w28 =>
  If (r_10 != 0) (
  K false w28) (
  C_disk_Disk_Waiting r0_1 w28 fun r_11 w29 =>
  If (r_11 != 0) (
  K false w29) (
  J2 w29)))) ∧ ∀ (_ : Env) (w30 : World), J2 w30 →
  ∃ I2 : Nat → Int → World → Prop, (∃ m, I2 m 0 w30) ∧ ∀ (_ : Env) (m0_3 : Nat) (t_3 : Int) (w31 : World), I2 m0_3 t_3 w31 →
  If (decide (t_3 < 8)) (
  C_disk_Disk_Read r0_1 t_3 w31 fun r0_2 r1_1 w32 =>
  ∃ J1 : World → Prop, (
  If (r1_1 != 0) (
  K false w32) (
  If (((r0_2.len : Int)) != 256) (
  K false w32) (
  J1 w32))) ∧ ∀ (_ : Env) (w33 : World), J1 w33 →
  ∃ I1 : Nat → Int → World → Prop, (∃ m, I1 m 0 w33) ∧ ∀ (_ : Env) (m0_4 : Nat) (t_4 : Int) (w34 : World), I1 m0_4 t_4 w34 →
  If (decide (t_4 < ((r0_2.len : Int)))) (
  ∃ J0 : Bool → World → Prop, (
  ∃ S : World → Prop, S (drewW w34) ∧
  Ix r0_2.a r0_2.len t_4 1 fun a_2 =>
  ∃ vv_10 : Int, Held S a_2 (.int .u8 vv_10) ∧
  (0 : Int) ≤ t_3 ∧ t_3 < ((8 : Nat) : Int) ∧
  ∃ vv_11 : Sl, Held S ((Addr.mk b 0 none).add (Int.toNat t_3 * 1)) (.slice vv_11.a vv_11.len vv_11.cap) ∧
  Ix vv_11.a vv_11.len t_4 1 fun a_3 =>
  ∃ vv_12 : Int, Held S a_3 (.int .u8 vv_12) ∧
  If (vv_10 == vv_12) (
  Ix r0_2.a r0_2.len t_4 1 fun a_4 =>
  ∃ vv_13 : Int, Held S a_4 (.int .u8 vv_13) ∧
  (64 : Int) ≠ 0 ∧ Ar .i64 (Int.tdiv t_4 64) fun z_12 =>
  Ar .i64 (z_12 * 64) fun z_13 =>
  Ix r0_2.a r0_2.len z_13 1 fun a_5 =>
  ∃ vv_14 : Int, Held S a_5 (.int .u8 vv_14) ∧
  J0 (vv_13 == vv_14) ((drewW w34))) (
  J0 false ((drewW w34)))) ∧ ∀ (_ : Env) (ok : Bool) (w35 : World), J0 ok w35 →
  (0 : Int) ≤ t_3 ∧ t_3 < ((8 : Nat) : Int) ∧
  ∃ vv_15 : Sl, Cell w35 ((Addr.mk b_2 0 none).add (Int.toNat t_3 * 1)) (.slice vv_15.a vv_15.len vv_15.cap) ∧
  ∃ I0 : Nat → Bool → Int → World → Prop, (∃ m, I0 m ok 0 w35) ∧ ∀ (_ : Env) (m0_5 : Nat) (ok_1 : Bool) (t_5 : Int) (w36 : World), I0 m0_5 ok_1 t_5 w36 →
  If (decide (t_5 < ((vv_15.len : Int)))) (
  Ix vv_15.a vv_15.len t_5 1 fun a_6 =>
  ∃ vv_16 : Int, Cell w36 a_6 (.int .u8 vv_16) ∧
  If ok_1 (
  Ar .i64 (t_5 + 1) fun z_14 =>
  ∃ m1_5, m1_5 < m0_5 ∧ I0 m1_5 true z_14 w36) (
  Ix r0_2.a r0_2.len t_4 1 fun a_7 =>
  ∃ vv_17 : Int, Cell w36 a_7 (.int .u8 vv_17) ∧
  If (vv_17 == vv_16) (
  (64 : Int) ≠ 0 ∧ Ar .i64 (Int.tdiv t_4 64) fun z_15 =>
  Ar .i64 (z_15 * 64) fun z_16 =>
  Ix r0_2.a r0_2.len z_16 1 fun a_8 =>
  ∃ vv_18 : Int, Cell w36 a_8 (.int .u8 vv_18) ∧
  Ar .i64 (t_5 + 1) fun z_17 =>
  ∃ m1_5, m1_5 < m0_5 ∧ I0 m1_5 (vv_18 == vv_16) z_17 w36) (
  Ar .i64 (t_5 + 1) fun z_18 =>
  ∃ m1_5, m1_5 < m0_5 ∧ I0 m1_5 false z_18 w36))) (
  If (!ok_1) (
  K false w36) (
  Ar .i64 (t_4 + 1) fun z_19 =>
  ∃ m1_4, m1_4 < m0_4 ∧ I1 m1_4 z_19 w36))) (
  Ar .i64 (t_3 + 1) fun z_20 =>
  ∃ m1_3, m1_3 < m0_3 ∧ I2 m1_3 z_20 w34)) (
  C_law08_known  w31 fun r_12 w37 =>
  K r_12 w37)))))
def A_law08_DiskSynced : Ann := (.seq .nil (.join [] 4286578752 (.seq .nil (.cond (.seq .nil .nil) .nil)) (.seq .nil (.join [] 4329327034432 (.seq .nil (.cond (.seq .nil .nil) .nil)) (.seq .nil (.seq (.seq .nil (.block (.loop [(42, .int .i64)] 558551906911232 (.seq .nil (.seq (.cond .nil .nil) (.seq (.block (.seq .nil .nil)) .nil)))))) (.seq (.seq .nil (.block (.loop [(51, .int .i64)] 18889463679678767173696 (.seq .nil (.seq (.cond .nil .nil) (.seq (.block (.seq .nil (.seq (.seq (.draw (.take 0 (.take 1 (.take 2 (.take 3 (.take 4 (.take 5 (.take 6 (.one 7 (.one 8 (.take 9 .fin))))))))))) (.cond (.seq .nil .nil) .nil)) (.draw (.take 0 (.take 1 (.take 2 (.take 3 (.take 4 (.take 5 (.one 6 (.take 7 (.last 8))))))))))))) .nil)))))) (.seq (.seq .nil (.cond (.seq .nil .nil) .nil)) (.seq .nil (.seq (.seq .nil (.block (.loop [(79, .int .i64)] 324518553053963816975841433256000 (.seq .nil (.seq (.cond .nil .nil) (.seq (.block (.seq .nil (.seq (.seq (.draw (.take 0 (.take 1 (.take 2 (.take 3 (.take 4 (.take 5 (.take 6 (.one 7 (.one 8 (.take 9 .fin))))))))))) (.cond (.seq .nil .nil) .nil)) (.draw (.take 0 (.take 1 (.take 2 (.take 3 (.take 4 (.take 5 (.take 6 (.take 7 (.take 8 (.take 9 (.take 10 (.one 11 (.one 12 (.take 13 (.last 14))))))))))))))))))) .nil)))))) (.join [] 21267323414004995539734129808464937024 (.seq .nil (.cond (.seq .nil .nil) .nil)) (.seq (.seq .nil (.block (.loop [(124, .int .i64)] 3213876088517980551083902917034392646390439526652621191315520 (.seq .nil (.seq (.cond .nil .nil) (.seq (.block (.seq .nil (.seq .nil (.join [] 1382907539166693915515154404602706011357248 (.seq .nil (.cond (.seq .nil .nil) .nil)) (.seq .nil (.block (.loop [(142, .int .i64)] 1606938044258990269966775792708506817138273425620702464573504 (.seq .nil (.seq (.cond .nil .nil) (.seq (.block (.seq .nil (.join [(20, .bool)] 748288793711931897059040351279300360767114451091456 (.draw (.take 0 (.take 1 (.take 2 (.take 3 (.take 4 (.take 5 (.take 6 (.take 7 (.take 8 (.take 9 (.take 10 (.take 11 (.take 12 (.take 13 (.take 14 (.take 15 (.take 16 (.take 17 (.take 18 (.take 19 (.take 20 (.take 21 (.take 22 (.take 23 (.take 24 .fin)))))))))))))))))))))))))) (.seq (.seq .nil (.block (.loop [(20, .bool), (173, .int .i64)] 200867243559752371427988555618059175703484877201449717596160 (.seq .nil (.seq (.cond .nil .nil) (.seq (.block (.seq .nil .nil)) .nil)))))) (.seq .nil (.cond (.seq .nil .nil) .nil)))))) .nil)))))))))) .nil)))))) (.seq .nil .nil)))))))))))))
theorem S_law08_DiskSynced {first : Sl} {thenv : Sl} {masks : Sl} {w : World} {K : Bool → World → Prop} (h : F_law08_DiskSynced first thenv masks w K) : C_law08_DiskSynced first thenv masks w K := by
  have h1 : wpc Try.prog A_law08_DiskSynced (Try.f3.body.getD .skip) (retK Try.prog [.one (.bool)] Try.f3.results.toList K) (argEnv [.slice first.a first.len first.cap, .slice thenv.a thenv.len thenv.cap, .slice masks.a masks.len masks.cap]) w := cast (by kernel_rfl : F_law08_DiskSynced first thenv masks w K = wpc Try.prog A_law08_DiskSynced (Try.f3.body.getD .skip) (retK Try.prog [.one (.bool)] Try.f3.results.toList K) (argEnv [.slice first.a first.len first.cap, .slice thenv.a thenv.len thenv.cap, .slice masks.a masks.len masks.cap]) w) h
  have h2 : chk Try.prog Try.f3.ntmps A_law08_DiskSynced (Try.f3.body.getD .skip) = true := by kernel_rfl
  have h4 : Nat.ble (List.length (α := Value) [.slice first.a first.len first.cap, .slice thenv.a thenv.len thenv.cap, .slice masks.a masks.len masks.cap]) Try.f3.ntmps = true := by kernel_rfl
  have h5 : Try.f3.body = some (Try.f3.body.getD .skip) := by kernel_rfl
  have h6 := @fn_sound Try.prog 3 Try.f3 (Try.f3.body.getD .skip) A_law08_DiskSynced [.slice first.a first.len first.cap, .slice thenv.a thenv.len thenv.cap, .slice masks.a masks.len masks.cap] [.one (.bool)] K w Try.func3 h5 h2 h4 h1
  exact cast (by kernel_rfl : callK Try.prog 3 (List.toArray (α := Value) [.slice first.a first.len first.cap, .slice thenv.a thenv.len thenv.cap, .slice masks.a masks.len masks.cap]) [.one (.bool)] K w = C_law08_DiskSynced first thenv masks w K) h6

def F_law08_DiskFails (l : Sl) (fail : Int) (cut : Int) (w : World) (K : Bool → World → Prop) : Prop :=
  If (decide (((l.len : Int)) > 200)) (
  C_law08_known  w fun r w1 =>
  K r w1) (
  C_disk_New 8 w fun r0_1 r1 w2 =>
  ∃ J5 : World → Prop, (
  If (Option.isNone r0_1) (
  K false w2) (
  If (r1 != 0) (
  K false w2) (
  J5 w2))) ∧ ∀ (_ : Env) (w3 : World), J5 w3 →
  C_disk_Disk_Fail r0_1 fail w3 fun w4 =>
  C_disk_Disk_Cut r0_1 cut w4 fun w5 =>
  ∃ I0 : Nat → Int → World → Prop, (∃ m, I0 m 0 w5) ∧ ∀ (_ : Env) (m0 : Nat) (t : Int) (w6 : World), I0 m0 t w6 →
  If (decide (t < ((l.len : Int)))) (
  Ix l.a l.len t 5 fun a =>
  ∃ c : Int, Cell w6 a (.int .i64 c) ∧
  ∃ c_1 : Int, Cell w6 (a.add 1) (.int .i64 c_1) ∧
  ∃ c_2 : Int, Cell w6 (a.add 2) (.int .i64 c_2) ∧
  ∃ c_3 : Sl, Cell w6 (a.add 3) (.slice c_3.a c_3.len c_3.cap) ∧
  ∃ c_4 : Sl, Cell w6 (a.add 4) (.slice c_4.a c_4.len c_4.cap) ∧
  NewW w6 (.cells [.int .i64 0, .int .i64 0, .int .i64 0, .slice none 0 0, .slice none 0 0].toArray 32) fun b w7 =>
  List.length (α := Value) [.int .i64 c, .int .i64 c_1, .int .i64 c_2, .slice c_3.a c_3.len c_3.cap, .slice c_4.a c_4.len c_4.cap] = 5 ∧ StN w7 (Addr.mk b 0 none) [.int .i64 c, .int .i64 c_1, .int .i64 c_2, .slice c_3.a c_3.len c_3.cap, .slice c_4.a c_4.len c_4.cap] fun w8 =>
  ∃ vv : Int, Cell w8 ((Addr.mk b 0 none).add 1) (.int .i64 vv) ∧
  Nm (bitI .and .i64 vv 7) fun z =>
  C_disk_Disk_Read r0_1 z w8 fun r0_2 _r1_1 w9 =>
  C_disk_Disk_Waiting r0_1 w9 fun r_1 w10 =>
  ∃ J4 : Int → World → Prop, (
  ∃ vv_1 : Int, Cell w10 (Addr.mk b 0 none) (.int .i64 vv_1) ∧
  Nm (bitI .and .i64 vv_1 1) fun z_1 =>
  If (z_1 == 0) (
  ∃ S : World → Prop, S (drewW w10) ∧
  ∃ vv_2 : Int, Held S ((Addr.mk b 0 none).add 1) (.int .i64 vv_2) ∧
  Nm (bitI .and .i64 vv_2 7) fun z_2 =>
  ∃ vv_3 : Int, Held S ((Addr.mk b 0 none).add 2) (.int .i64 vv_3) ∧
  Ar .u8 vv_3 fun z_3 =>
  C_law08_full z_3 (drewW w10) fun r_2 w11 =>
  S w11 ∧
  C_disk_Disk_Write r0_1 z_2 r_2 w11 fun r_3 w12 =>
  S w12 ∧
  J4 r_3 w12) (
  C_disk_Disk_Step r0_1 w10 fun r_4 w13 =>
  J4 r_4 w13)) ∧ ∀ (_ : Env) (got : Int) (w14 : World), J4 got w14 →
  ∃ J3 : Int → World → Prop, (
  Ar .i64 (t + 1) fun z_4 =>
  If (z_4 == fail) (
  J3 80 w14) (
  J3 0 w14)) ∧ ∀ (_ : Env) (want : Int) (w15 : World), J3 want w15 →
  ∃ J2 : Int → World → Prop, (
  If (decide (cut ≥ 0)) (
  If (decide (t ≥ cut)) (
  J2 81 w15) (
  J2 want w15)) (
  J2 want w15)) ∧ ∀ (_ : Env) (want_1 : Int) (w16 : World), J2 want_1 w16 →
  ∃ J1 : World → Prop, (
  If (got != want_1) (
  K false w16) (
  C_disk_Disk_Down r0_1 w16 fun r_5 w17 =>
  If (!(r_5 == (want_1 == 81))) (
  K false w17) (
  J1 w17))) ∧ ∀ (_ : Env) (w18 : World), J1 w18 →
  If (want_1 == 80) (
  ∃ vv_4 : Int, Cell w18 ((Addr.mk b 0 none).add 1) (.int .i64 vv_4) ∧
  Nm (bitI .and .i64 vv_4 7) fun z_5 =>
  C_disk_Disk_Read r0_1 z_5 w18 fun r0_3 r1_2 w19 =>
  If (r1_2 != 0) (
  K false w19) (
  StrC (Cell w19) r0_3 fun str =>
  StrC (Cell w19) r0_2 fun str_1 =>
  If (!(ByteArray.toList str == ByteArray.toList str_1)) (
  K false w19) (
  C_disk_Disk_Waiting r0_1 w19 fun r_6 w20 =>
  If (r_6 != r_1) (
  K false w20) (
  Ar .i64 (t + 1) fun z_6 =>
  ∃ m1, m1 < m0 ∧ I0 m1 z_6 w20)))) (
  Ar .i64 (t + 1) fun z_7 =>
  ∃ m1, m1 < m0 ∧ I0 m1 z_7 w18)) (
  ∃ J0 : Int → World → Prop, (
  If (decide (cut ≥ 0)) (
  Nm (iMin ((l.len : Int)) cut) fun z_8 =>
  J0 z_8 w6) (
  J0 (l.len : Int) w6)) ∧ ∀ (_ : Env) (done : Int) (w21 : World), J0 done w21 →
  C_disk_Disk_Steps r0_1 w21 fun r_7 w22 =>
  Ar .u64 done fun z_9 =>
  If (r_7 == z_9) (
  C_law08_known  w22 fun r_8 w23 =>
  K r_8 w23) (
  K false w22)))
def A_law08_DiskFails : Ann := (.seq .nil (.seq (.seq .nil (.cond (.seq .nil .nil) .nil)) (.seq .nil (.join [] 8455716928 (.seq .nil (.cond (.seq .nil .nil) .nil)) (.seq .nil (.seq .nil (.seq (.seq .nil (.block (.loop [(41, .int .i64)] 332306998946228968225949566047092288 (.seq .nil (.seq (.cond .nil .nil) (.seq (.block (.seq .nil (.seq .nil (.seq .nil (.seq .nil (.join [(14, .int .i64)] 2361111183840784695296 (.seq .nil (.cond (.draw (.take 0 (.take 1 (.take 2 (.take 3 (.take 4 (.take 5 (.take 6 (.one 7 (.one 8 (.take 9 .fin))))))))))) .nil)) (.seq .nil (.join [(15, .int .i64)] 35417748621522339135488 (.seq .nil (.cond .nil .nil)) (.join [(15, .int .i64)] 4797924346595559537147904 (.seq .nil (.cond .nil .nil)) (.join [] 4946924453863062582897672256 (.seq .nil (.cond (.seq .nil .nil) .nil)) (.seq .nil (.cond (.seq .nil (.seq .nil (.cond (.seq .nil .nil) .nil))) .nil)))))))))))) .nil)))))) (.seq .nil (.join [(18, .int .i64)] 41206067869332392060018018868690944000 (.seq .nil (.cond .nil .nil)) (.seq .nil .nil))))))))))
theorem S_law08_DiskFails {l : Sl} {fail : Int} {cut : Int} {w : World} {K : Bool → World → Prop} (h : F_law08_DiskFails l fail cut w K) : C_law08_DiskFails l fail cut w K := by
  have h1 : wpc Try.prog A_law08_DiskFails (Try.f6.body.getD .skip) (retK Try.prog [.one (.bool)] Try.f6.results.toList K) (argEnv [.slice l.a l.len l.cap, .int .i64 fail, .int .i64 cut]) w := cast (by kernel_rfl : F_law08_DiskFails l fail cut w K = wpc Try.prog A_law08_DiskFails (Try.f6.body.getD .skip) (retK Try.prog [.one (.bool)] Try.f6.results.toList K) (argEnv [.slice l.a l.len l.cap, .int .i64 fail, .int .i64 cut]) w) h
  have h2 : chk Try.prog Try.f6.ntmps A_law08_DiskFails (Try.f6.body.getD .skip) = true := by kernel_rfl
  have h4 : Nat.ble (List.length (α := Value) [.slice l.a l.len l.cap, .int .i64 fail, .int .i64 cut]) Try.f6.ntmps = true := by kernel_rfl
  have h5 : Try.f6.body = some (Try.f6.body.getD .skip) := by kernel_rfl
  have h6 := @fn_sound Try.prog 6 Try.f6 (Try.f6.body.getD .skip) A_law08_DiskFails [.slice l.a l.len l.cap, .int .i64 fail, .int .i64 cut] [.one (.bool)] K w Try.func6 h5 h2 h4 h1
  exact cast (by kernel_rfl : callK Try.prog 6 (List.toArray (α := Value) [.slice l.a l.len l.cap, .int .i64 fail, .int .i64 cut]) [.one (.bool)] K w = C_law08_DiskFails l fail cut w K) h6

def F_law08_DiskCalm (l : Sl) (sync : Int) (w : World) (K : Bool → World → Prop) : Prop :=
  If (decide (((l.len : Int)) > 60)) (
  C_law08_known  w fun r w1 =>
  K r w1) (
  C_disk_New 8 w fun r0_1 r1 w2 =>
  ∃ J1 : World → Prop, (
  If (Option.isNone r0_1) (
  K false w2) (
  If (r1 != 0) (
  K false w2) (
  J1 w2))) ∧ ∀ (_ : Env) (w3 : World), J1 w3 →
  ∃ I2 : Nat → Int → World → Prop, (∃ m, I2 m 0 w3) ∧ ∀ (_ : Env) (m0 : Nat) (t : Int) (w4 : World), I2 m0 t w4 →
  If (decide (t < ((l.len : Int)))) (
  Ix l.a l.len t 5 fun a =>
  ∃ c : Int, Cell w4 a (.int .i64 c) ∧
  ∃ c_1 : Int, Cell w4 (a.add 1) (.int .i64 c_1) ∧
  ∃ c_2 : Int, Cell w4 (a.add 2) (.int .i64 c_2) ∧
  ∃ c_3 : Sl, Cell w4 (a.add 3) (.slice c_3.a c_3.len c_3.cap) ∧
  ∃ c_4 : Sl, Cell w4 (a.add 4) (.slice c_4.a c_4.len c_4.cap) ∧
  NewW w4 (.cells [.int .i64 0, .int .i64 0, .int .i64 0, .slice none 0 0, .slice none 0 0].toArray 32) fun b w5 =>
  List.length (α := Value) [.int .i64 c, .int .i64 c_1, .int .i64 c_2, .slice c_3.a c_3.len c_3.cap, .slice c_4.a c_4.len c_4.cap] = 5 ∧ StN w5 (Addr.mk b 0 none) [.int .i64 c, .int .i64 c_1, .int .i64 c_2, .slice c_3.a c_3.len c_3.cap, .slice c_4.a c_4.len c_4.cap] fun w6 =>
  ∃ S : World → Prop, S (drewW w6) ∧
  ∃ vv : Int, Held S ((Addr.mk b 0 none).add 1) (.int .i64 vv) ∧
  Nm (bitI .and .i64 vv 7) fun z =>
  ∃ vv_1 : Int, Held S ((Addr.mk b 0 none).add 2) (.int .i64 vv_1) ∧
  Ar .u8 vv_1 fun z_1 =>
  C_law08_full z_1 (drewW w6) fun r_1 w7 =>
  S w7 ∧
  C_disk_Disk_Write r0_1 z r_1 w7 fun r_2 w8 =>
  S w8 ∧
  If (r_2 != 0) (
  K false w8) (
  If (t == sync) (
  C_disk_Disk_Sync r0_1 w8 fun r_3 w9 =>
  S w9 ∧
  If (r_3 != 0) (
  K false w9) (
  Ar .i64 (t + 1) fun z_2 =>
  ∃ m1, m1 < m0 ∧ I2 m1 z_2 w9)) (
  Ar .i64 (t + 1) fun z_3 =>
  ∃ m1, m1 < m0 ∧ I2 m1 z_3 w8))) (
  MkW w4 5 [.int .u8 0] 1 ((l.len : Int)) ((l.len : Int)) fun s w10 =>
  ∃ I1 : Nat → Int → World → Prop, (∃ m, I1 m 0 w10) ∧ ∀ (_ : Env) (m0_1 : Nat) (t_1 : Int) (w11 : World), I1 m0_1 t_1 w11 →
  If (decide (t_1 < ((s.len : Int)))) (
  Ix s.a s.len t_1 1 fun a_1 =>
  St1 w11 a_1 (.int .u8 15) fun w12 =>
  Ar .i64 (t_1 + 1) fun z_4 =>
  ∃ m1_1, m1_1 < m0_1 ∧ I1 m1_1 z_4 w12) (
  C_disk_Disk_Fork r0_1 w11 fun r_4 w13 =>
  C_disk_Disk_Fork r0_1 w13 fun r_5 w14 =>
  ∃ J0 : World → Prop, (
  If (Option.isNone r_4) (
  K false w14) (
  If (Option.isNone r_5) (
  K false w14) (
  C_disk_Disk_Crash r_4 s w14 fun r_6 w15 =>
  If (r_6 != 0) (
  K false w15) (
  C_disk_Disk_Crash r_5 ⟨none, 0, 0⟩ w15 fun r_7 w16 =>
  If (r_7 != 0) (
  K false w16) (
  J0 w16))))) ∧ ∀ (_ : Env) (w17 : World), J0 w17 →
  ∃ I0 : Nat → Int → World → Prop, (∃ m, I0 m 0 w17) ∧ ∀ (_ : Env) (m0_2 : Nat) (t_2 : Int) (w18 : World), I0 m0_2 t_2 w18 →
  If (decide (t_2 < 8)) (
  C_disk_Disk_Read r0_1 t_2 w18 fun r0_2 r1_1 w19 =>
  C_disk_Disk_Firm r0_1 t_2 w19 fun r0_3 r1_2 w20 =>
  C_disk_Disk_Read r_4 t_2 w20 fun r0_4 r1_3 w21 =>
  C_disk_Disk_Read r_5 t_2 w21 fun r0_5 r1_4 w22 =>
  C_disk_Disk_Firm r_4 t_2 w22 fun r0_6 r1_5 w23 =>
  If (r1_1 != 0) (
  K false w23) (
  If (r1_2 != 0) (
  K false w23) (
  If (r1_3 != 0) (
  K false w23) (
  If (r1_4 != 0) (
  K false w23) (
  If (r1_5 != 0) (
  K false w23) (
  StrC (Cell w23) r0_4 fun str =>
  StrC (Cell w23) r0_2 fun str_1 =>
  If (!(ByteArray.toList str == ByteArray.toList str_1)) (
  K false w23) (
  StrC (Cell w23) r0_5 fun str_2 =>
  StrC (Cell w23) r0_3 fun str_3 =>
  If (!(ByteArray.toList str_2 == ByteArray.toList str_3)) (
  K false w23) (
  StrC (Cell w23) r0_6 fun str_4 =>
  StrC (Cell w23) r0_2 fun str_5 =>
  If (!(ByteArray.toList str_4 == ByteArray.toList str_5)) (
  K false w23) (
  Ar .i64 (t_2 + 1) fun z_5 =>
  ∃ m1_2, m1_2 < m0_2 ∧ I0 m1_2 z_5 w23))))))))) (
  C_law08_known  w18 fun r_8 w24 =>
  K r_8 w24))))
def A_law08_DiskCalm : Ann := (.seq .nil (.seq (.seq .nil (.cond (.seq .nil .nil) .nil)) (.seq .nil (.join [] 270582939664 (.seq .nil (.cond (.seq .nil .nil) .nil)) (.seq (.seq .nil (.block (.loop [(40, .int .i64)] 73786975195326579088 (.seq .nil (.seq (.cond .nil .nil) (.seq (.block (.seq .nil (.seq (.draw (.take 0 (.take 1 (.take 2 (.take 3 (.take 4 (.take 5 (.take 6 (.one 7 (.one 8 (.take 9 (.take 10 (.take 11 (.take 12 (.take 13 (.take 14 (.take 15 (.one 16 (.take 17 (.take 18 (.take 19 .fin))))))))))))))))))))) (.cond (.seq .nil .nil) .nil)))) .nil)))))) (.seq .nil (.seq (.seq .nil (.block (.loop [(71, .int .i64)] 299870271662222471070720 (.seq .nil (.seq (.cond .nil .nil) (.seq (.block (.seq .nil .nil)) .nil)))))) (.seq .nil (.join [] 633820464410836242231652778000 (.seq .nil (.cond (.seq .nil .nil) .nil)) (.seq (.seq .nil (.block (.loop [(99, .int .i64)] 5986310706507378352961659249505781133809951361196048 (.seq .nil (.seq (.cond .nil .nil) (.seq (.block (.seq .nil (.seq .nil (.seq .nil (.seq .nil (.seq .nil (.seq .nil (.seq .nil (.cond (.seq .nil .nil) .nil))))))))) .nil)))))) (.seq .nil .nil)))))))))))
theorem S_law08_DiskCalm {l : Sl} {sync : Int} {w : World} {K : Bool → World → Prop} (h : F_law08_DiskCalm l sync w K) : C_law08_DiskCalm l sync w K := by
  have h1 : wpc Try.prog A_law08_DiskCalm (Try.f7.body.getD .skip) (retK Try.prog [.one (.bool)] Try.f7.results.toList K) (argEnv [.slice l.a l.len l.cap, .int .i64 sync]) w := cast (by kernel_rfl : F_law08_DiskCalm l sync w K = wpc Try.prog A_law08_DiskCalm (Try.f7.body.getD .skip) (retK Try.prog [.one (.bool)] Try.f7.results.toList K) (argEnv [.slice l.a l.len l.cap, .int .i64 sync]) w) h
  have h2 : chk Try.prog Try.f7.ntmps A_law08_DiskCalm (Try.f7.body.getD .skip) = true := by kernel_rfl
  have h4 : Nat.ble (List.length (α := Value) [.slice l.a l.len l.cap, .int .i64 sync]) Try.f7.ntmps = true := by kernel_rfl
  have h5 : Try.f7.body = some (Try.f7.body.getD .skip) := by kernel_rfl
  have h6 := @fn_sound Try.prog 7 Try.f7 (Try.f7.body.getD .skip) A_law08_DiskCalm [.slice l.a l.len l.cap, .int .i64 sync] [.one (.bool)] K w Try.func7 h5 h2 h4 h1
  exact cast (by kernel_rfl : callK Try.prog 7 (List.toArray (α := Value) [.slice l.a l.len l.cap, .int .i64 sync]) [.one (.bool)] K w = C_law08_DiskCalm l sync w K) h6

def F_ref08_May (blocks : Int) (w : World) (K : Bool → World → Prop) : Prop :=
  If (decide (blocks ≥ 8)) (
  K (decide (blocks ≤ 4096)) w) (
  K false w)
def A_ref08_May : Ann := (.seq .nil (.seq .nil .nil))
theorem S_ref08_May {blocks : Int} {w : World} {K : Bool → World → Prop} (h : F_ref08_May blocks w K) : C_ref08_May blocks w K := by
  have h1 : wpc Try.prog A_ref08_May (Try.f36.body.getD .skip) (retK Try.prog [.one (.bool)] Try.f36.results.toList K) (argEnv [.int .i64 blocks]) w := cast (by kernel_rfl : F_ref08_May blocks w K = wpc Try.prog A_ref08_May (Try.f36.body.getD .skip) (retK Try.prog [.one (.bool)] Try.f36.results.toList K) (argEnv [.int .i64 blocks]) w) h
  have h2 : chk Try.prog Try.f36.ntmps A_ref08_May (Try.f36.body.getD .skip) = true := by kernel_rfl
  have h4 : Nat.ble (List.length (α := Value) [.int .i64 blocks]) Try.f36.ntmps = true := by kernel_rfl
  have h5 : Try.f36.body = some (Try.f36.body.getD .skip) := by kernel_rfl
  have h6 := @fn_sound Try.prog 36 Try.f36 (Try.f36.body.getD .skip) A_ref08_May [.int .i64 blocks] [.one (.bool)] K w Try.func36 h5 h2 h4 h1
  exact cast (by kernel_rfl : callK Try.prog 36 (List.toArray (α := Value) [.int .i64 blocks]) [.one (.bool)] K w = C_ref08_May blocks w K) h6

def F_law08_heavy (l : Sl) (w : World) (K : Bool → World → Prop) : Prop :=
  ∃ I0 : Nat → Int → Int → World → Prop, (∃ m, I0 m 0 0 w) ∧ ∀ (_ : Env) (m0 : Nat) (n : Int) (t : Int) (w1 : World), I0 m0 n t w1 →
  If (decide (t < ((l.len : Int)))) (
  ∃ S : World → Prop, S (drewW w1) ∧
  Ix l.a l.len t 5 fun a =>
  ∃ vv : Sl, Held S (a.add 3) (.slice vv.a vv.len vv.cap) ∧
  (64 : Int) ≠ 0 ∧ Ar .i64 (Int.tdiv ((vv.len : Int)) 64) fun z =>
  Ar .i64 (1 + z) fun z_1 =>
  Ix l.a l.len t 5 fun a_1 =>
  ∃ vv_1 : Sl, Held S (a_1.add 4) (.slice vv_1.a vv_1.len vv_1.cap) ∧
  Ar .i64 (z_1 + ((vv_1.len : Int))) fun z_2 =>
  Ar .i64 (n + z_2) fun z_3 =>
  If (decide (z_3 > 4000)) (
  K true ((drewW w1))) (
  Ar .i64 (t + 1) fun z_4 =>
  ∃ m1, m1 < m0 ∧ I0 m1 z_3 z_4 ((drewW w1)))) (
  K false w1)
def A_law08_heavy : Ann := (.seq .nil (.seq .nil (.seq (.seq .nil (.block (.loop [(3, .int .i64), (7, .int .i64)] 1073741724 (.seq .nil (.seq (.cond .nil .nil) (.seq (.block (.seq .nil (.seq (.draw (.take 0 (.take 1 (.take 2 (.take 3 (.take 4 (.take 5 (.take 6 (.take 7 (.take 8 (.take 9 (.take 10 (.take 11 (.take 12 (.take 13 (.take 14 (.take 15 (.take 16 (.take 17 .fin))))))))))))))))))) (.seq .nil (.cond (.seq .nil .nil) .nil))))) .nil)))))) (.seq .nil .nil))))
theorem S_law08_heavy {l : Sl} {w : World} {K : Bool → World → Prop} (h : F_law08_heavy l w K) : C_law08_heavy l w K := by
  have h1 : wpc Try.prog A_law08_heavy (Try.f37.body.getD .skip) (retK Try.prog [.one (.bool)] Try.f37.results.toList K) (argEnv [.slice l.a l.len l.cap]) w := cast (by kernel_rfl : F_law08_heavy l w K = wpc Try.prog A_law08_heavy (Try.f37.body.getD .skip) (retK Try.prog [.one (.bool)] Try.f37.results.toList K) (argEnv [.slice l.a l.len l.cap]) w) h
  have h2 : chk Try.prog Try.f37.ntmps A_law08_heavy (Try.f37.body.getD .skip) = true := by kernel_rfl
  have h4 : Nat.ble (List.length (α := Value) [.slice l.a l.len l.cap]) Try.f37.ntmps = true := by kernel_rfl
  have h5 : Try.f37.body = some (Try.f37.body.getD .skip) := by kernel_rfl
  have h6 := @fn_sound Try.prog 37 Try.f37 (Try.f37.body.getD .skip) A_law08_heavy [.slice l.a l.len l.cap] [.one (.bool)] K w Try.func37 h5 h2 h4 h1
  exact cast (by kernel_rfl : callK Try.prog 37 (List.toArray (α := Value) [.slice l.a l.len l.cap]) [.one (.bool)] K w = C_law08_heavy l w K) h6

def F_disk_Disk_Blocks (d : Option Addr) (w : World) (K : Int → World → Prop) : Prop :=
  If (Option.isNone d) (
  K 0 w) (
  Nn d fun a =>
  ∃ vv : Sl, Cell w a (.slice vv.a vv.len vv.cap) ∧
  K (vv.len : Int) w)
def A_disk_Disk_Blocks : Ann := (.seq .nil (.seq (.seq .nil (.cond (.seq .nil .nil) .nil)) (.seq .nil .nil)))
theorem S_disk_Disk_Blocks {d : Option Addr} {w : World} {K : Int → World → Prop} (h : F_disk_Disk_Blocks d w K) : C_disk_Disk_Blocks d w K := by
  have h1 : wpc Try.prog A_disk_Disk_Blocks (Try.f40.body.getD .skip) (retK Try.prog [.one (.int .i64)] Try.f40.results.toList K) (argEnv [.pointer d]) w := cast (by kernel_rfl : F_disk_Disk_Blocks d w K = wpc Try.prog A_disk_Disk_Blocks (Try.f40.body.getD .skip) (retK Try.prog [.one (.int .i64)] Try.f40.results.toList K) (argEnv [.pointer d]) w) h
  have h2 : chk Try.prog Try.f40.ntmps A_disk_Disk_Blocks (Try.f40.body.getD .skip) = true := by kernel_rfl
  have h4 : Nat.ble (List.length (α := Value) [.pointer d]) Try.f40.ntmps = true := by kernel_rfl
  have h5 : Try.f40.body = some (Try.f40.body.getD .skip) := by kernel_rfl
  have h6 := @fn_sound Try.prog 40 Try.f40 (Try.f40.body.getD .skip) A_disk_Disk_Blocks [.pointer d] [.one (.int .i64)] K w Try.func40 h5 h2 h4 h1
  exact cast (by kernel_rfl : callK Try.prog 40 (List.toArray (α := Value) [.pointer d]) [.one (.int .i64)] K w = C_disk_Disk_Blocks d w K) h6

def F_law08_DiskPlays (blocks : Int) (l : Sl) (w : World) (K : Bool → World → Prop) : Prop :=
  ∃ J1 : World → Prop, (
  C_ref08_May blocks w fun r w1 =>
  If r (
  If (decide (blocks > 64)) (
  C_law08_known  w1 fun r_1 w2 =>
  K r_1 w2) (
  C_law08_heavy l w1 fun r_2 w3 =>
  If r_2 (
  C_law08_known  w3 fun r_3 w4 =>
  K r_3 w4) (
  J1 w3))) (
  C_law08_heavy l w1 fun r_4 w5 =>
  If r_4 (
  C_law08_known  w5 fun r_5 w6 =>
  K r_5 w6) (
  J1 w5))) ∧ ∀ (_ : Env) (w7 : World), J1 w7 →
  C_disk_New blocks w7 fun r0_1 r1 w8 =>
  C_ref08_May blocks w8 fun r_6 w9 =>
  If (!r_6) (
  If (Option.isNone r0_1) (
  If (r1 == 2) (
  C_law08_known  w9 fun r_7 w10 =>
  K r_7 w10) (
  K false w9)) (
  K false w9)) (
  ∃ J0 : World → Prop, (
  If (Option.isNone r0_1) (
  K false w9) (
  If (r1 != 0) (
  K false w9) (
  J0 w9))) ∧ ∀ (_ : Env) (w11 : World), J0 w11 →
  C_ref08_New blocks w11 fun r_8 w12 =>
  ∃ I1 : Nat → Option Addr → Int → World → Prop, (∃ m, I1 m r0_1 0 w12) ∧ ∀ (_ : Env) (m0 : Nat) (d : Option Addr) (t : Int) (w13 : World), I1 m0 d t w13 →
  If (decide (t < ((l.len : Int)))) (
  Ix l.a l.len t 5 fun a =>
  ∃ c : Int, Cell w13 a (.int .i64 c) ∧
  ∃ c_1 : Int, Cell w13 (a.add 1) (.int .i64 c_1) ∧
  ∃ c_2 : Int, Cell w13 (a.add 2) (.int .i64 c_2) ∧
  ∃ c_3 : Sl, Cell w13 (a.add 3) (.slice c_3.a c_3.len c_3.cap) ∧
  ∃ c_4 : Sl, Cell w13 (a.add 4) (.slice c_4.a c_4.len c_4.cap) ∧
  C_law08_Does d r_8 c c_1 c_2 c_3 c_4 w13 fun r0_2 r1_1 w14 =>
  ∃ S : World → Prop, S (drewW w14) ∧
  If (!r1_1) (
  K false ((drewW w14))) (
  Nn r_8 fun a_1 =>
  ∃ vv : Int, Held S (a_1.add 3) (.int .u64 vv) ∧
  C_disk_Disk_Steps r0_2 (drewW w14) fun r_9 w15 =>
  S w15 ∧
  If (r_9 != vv) (
  K false w15) (
  Nn r_8 fun a_2 =>
  ∃ vv_1 : Sl, Held S (a_2.add 2) (.slice vv_1.a vv_1.len vv_1.cap) ∧
  C_disk_Disk_Waiting r0_2 w15 fun r_10 w16 =>
  S w16 ∧
  If (r_10 != ((vv_1.len : Int))) (
  K false w16) (
  Nn r_8 fun a_3 =>
  ∃ vv_2 : Bool, Held S (a_3.add 6) (.bool vv_2) ∧
  C_disk_Disk_Down r0_2 w16 fun r_11 w17 =>
  S w17 ∧
  If (!(r_11 == vv_2)) (
  K false w17) (
  C_disk_Disk_Blocks r0_2 w17 fun r_12 w18 =>
  S w18 ∧
  If (r_12 != blocks) (
  K false w18) (
  Ar .i64 (t + 1) fun z =>
  ∃ m1, m1 < m0 ∧ I1 m1 r0_2 z w18)))))) (
  Nn r_8 fun a_4 =>
  ∃ vv_3 : Sl, Cell w13 (a_4.add 1) (.slice vv_3.a vv_3.len vv_3.cap) ∧
  ∃ I0 : Nat → Int → World → Prop, (∃ m, I0 m 0 w13) ∧ ∀ (_ : Env) (m0_1 : Nat) (t_1 : Int) (w19 : World), I0 m0_1 t_1 w19 →
  If (decide (t_1 < ((vv_3.len : Int)))) (
  C_disk_Disk_Firm d t_1 w19 fun r0_3 r1_2 w20 =>
  If (r1_2 != 0) (
  K false w20) (
  Nn r_8 fun a_5 =>
  ∃ vv_4 : Sl, Cell w20 (a_5.add 1) (.slice vv_4.a vv_4.len vv_4.cap) ∧
  Ix vv_4.a vv_4.len t_1 1 fun a_6 =>
  ∃ vv_5 : Sl, Cell w20 a_6 (.slice vv_5.a vv_5.len vv_5.cap) ∧
  C_ref01_Same r0_3 vv_5 w20 fun r_13 w21 =>
  If (!r_13) (
  K false w21) (
  Ar .i64 (t_1 + 1) fun z_1 =>
  ∃ m1_1, m1_1 < m0_1 ∧ I0 m1_1 z_1 w21))) (
  C_law08_known  w19 fun r_14 w22 =>
  K r_14 w22)))
def A_law08_DiskPlays : Ann := (.seq .nil (.join [] 16769040 (.seq .nil (.cond (.seq .nil .nil) .nil)) (.seq .nil (.seq (.seq .nil (.cond (.seq .nil .nil) .nil)) (.join [] 138538465099792 (.seq .nil (.cond (.seq .nil .nil) .nil)) (.seq .nil (.seq (.seq .nil (.block (.loop [(5, .ptr), (51, .int .i64)] 2535301200456456551193592726320 (.seq .nil (.seq (.cond .nil .nil) (.seq (.block (.seq .nil (.seq .nil (.seq .nil (.seq (.draw (.take 0 (.take 1 (.take 2 (.take 3 (.take 5 (.take 6 (.take 7 (.take 8 (.one 4 (.take 9 (.take 10 (.take 11 (.take 12 (.take 14 (.take 15 (.take 16 (.take 17 (.take 18 (.one 13 (.take 19 (.take 20 (.take 21 (.take 22 (.take 24 (.take 25 (.take 26 (.take 27 (.one 23 (.take 28 (.take 29 (.take 30 (.take 31 (.take 33 (.one 32 (.take 34 (.take 35 .fin))))))))))))))))))))))))))))))))))))) (.cond (.seq .nil .nil) .nil)))))) .nil)))))) (.seq (.seq .nil (.block (.loop [(106, .int .i64)] 1361129386554115439246816733938067708944 (.seq .nil (.seq (.cond .nil .nil) (.seq (.block (.seq .nil (.seq .nil (.seq .nil (.cond (.seq .nil .nil) .nil))))) .nil)))))) (.seq .nil .nil)))))))))
theorem S_law08_DiskPlays {blocks : Int} {l : Sl} {w : World} {K : Bool → World → Prop} (h : F_law08_DiskPlays blocks l w K) : C_law08_DiskPlays blocks l w K := by
  have h1 : wpc Try.prog A_law08_DiskPlays (Try.f9.body.getD .skip) (retK Try.prog [.one (.bool)] Try.f9.results.toList K) (argEnv [.int .i64 blocks, .slice l.a l.len l.cap]) w := cast (by kernel_rfl : F_law08_DiskPlays blocks l w K = wpc Try.prog A_law08_DiskPlays (Try.f9.body.getD .skip) (retK Try.prog [.one (.bool)] Try.f9.results.toList K) (argEnv [.int .i64 blocks, .slice l.a l.len l.cap]) w) h
  have h2 : chk Try.prog Try.f9.ntmps A_law08_DiskPlays (Try.f9.body.getD .skip) = true := by kernel_rfl
  have h4 : Nat.ble (List.length (α := Value) [.int .i64 blocks, .slice l.a l.len l.cap]) Try.f9.ntmps = true := by kernel_rfl
  have h5 : Try.f9.body = some (Try.f9.body.getD .skip) := by kernel_rfl
  have h6 := @fn_sound Try.prog 9 Try.f9 (Try.f9.body.getD .skip) A_law08_DiskPlays [.int .i64 blocks, .slice l.a l.len l.cap] [.one (.bool)] K w Try.func9 h5 h2 h4 h1
  exact cast (by kernel_rfl : callK Try.prog 9 (List.toArray (α := Value) [.int .i64 blocks, .slice l.a l.len l.cap]) [.one (.bool)] K w = C_law08_DiskPlays blocks l w K) h6

def F_law08_DiskNone (o0 : Int) (o1 : Int) (o2 : Int) (o3 : Sl) (o4 : Sl) (w : World) (K : Bool → World → Prop) : Prop :=
  NewW w (.cells [.int .i64 o0, .int .i64 o1, .int .i64 o2, .slice o3.a o3.len o3.cap, .slice o4.a o4.len o4.cap].toArray 32) fun b w1 =>
  ∃ vv : Int, Cell w1 ((Addr.mk b 0 none).add 1) (.int .i64 vv) ∧
  C_disk_Disk_Fail none vv w1 fun w2 =>
  ∃ vv_1 : Int, Cell w2 ((Addr.mk b 0 none).add 1) (.int .i64 vv_1) ∧
  C_disk_Disk_Cut none vv_1 w2 fun w3 =>
  ∃ vv_2 : Int, Cell w3 ((Addr.mk b 0 none).add 1) (.int .i64 vv_2) ∧
  C_disk_Disk_Read none vv_2 w3 fun r0_1 r1 w4 =>
  ∃ vv_3 : Int, Cell w4 ((Addr.mk b 0 none).add 1) (.int .i64 vv_3) ∧
  C_disk_Disk_Firm none vv_3 w4 fun r0_2 r1_1 w5 =>
  ∃ J0 : World → Prop, (
  If (((r0_1.len : Int)) != 0) (
  K false w5) (
  If (((r0_2.len : Int)) != 0) (
  K false w5) (
  If (r1 != 1) (
  K false w5) (
  If (r1_1 != 1) (
  K false w5) (
  C_disk_Disk_Blocks none w5 fun r w6 =>
  If (r != 0) (
  K false w6) (
  C_disk_Disk_Steps none w6 fun r_1 w7 =>
  If (r_1 != 0) (
  K false w7) (
  C_disk_Disk_Waiting none w7 fun r_2 w8 =>
  If (r_2 != 0) (
  K false w8) (
  C_disk_Disk_Down none w8 fun r_3 w9 =>
  If r_3 (
  K false w9) (
  C_disk_Disk_Fork none w9 fun r_4 w10 =>
  If (!(Option.isNone r_4)) (
  K false w10) (
  J0 w10)))))))))) ∧ ∀ (_ : Env) (w11 : World), J0 w11 →
  ∃ vv_4 : Int, Cell w11 ((Addr.mk b 0 none).add 1) (.int .i64 vv_4) ∧
  ∃ vv_5 : Sl, Cell w11 ((Addr.mk b 0 none).add 3) (.slice vv_5.a vv_5.len vv_5.cap) ∧
  C_disk_Disk_Write none vv_4 vv_5 w11 fun r_5 w12 =>
  If (r_5 == 1) (
  C_disk_Disk_Sync none w12 fun r_6 w13 =>
  If (r_6 == 1) (
  C_disk_Disk_Step none w13 fun r_7 w14 =>
  If (r_7 == 1) (
  ∃ vv_6 : Sl, Cell w14 ((Addr.mk b 0 none).add 4) (.slice vv_6.a vv_6.len vv_6.cap) ∧
  C_disk_Disk_Crash none vv_6 w14 fun r_8 w15 =>
  If (r_8 == 1) (
  ∃ vv_7 : Int, Cell w15 ((Addr.mk b 0 none).add 1) (.int .i64 vv_7) ∧
  ∃ vv_8 : Int, Cell w15 ((Addr.mk b 0 none).add 2) (.int .i64 vv_8) ∧
  ∃ vv_9 : Sl, Cell w15 ((Addr.mk b 0 none).add 3) (.slice vv_9.a vv_9.len vv_9.cap) ∧
  C_disk_Disk_Foreign none vv_7 vv_8 vv_9 w15 fun r_9 w16 =>
  If (r_9 == 1) (
  C_law08_known  w16 fun r_10 w17 =>
  K r_10 w17) (
  K false w16)) (
  K false w15)) (
  K false w14)) (
  K false w13)) (
  K false w12)
def A_law08_DiskNone : Ann := (.seq .nil (.seq .nil (.seq .nil (.seq .nil (.seq .nil (.seq .nil (.join [] 1180591620716337561604 (.seq .nil (.cond (.seq .nil .nil) .nil)) (.seq .nil .nil))))))))
theorem S_law08_DiskNone {o0 : Int} {o1 : Int} {o2 : Int} {o3 : Sl} {o4 : Sl} {w : World} {K : Bool → World → Prop} (h : F_law08_DiskNone o0 o1 o2 o3 o4 w K) : C_law08_DiskNone o0 o1 o2 o3 o4 w K := by
  have h1 : wpc Try.prog A_law08_DiskNone (Try.f10.body.getD .skip) (retK Try.prog [.one (.bool)] Try.f10.results.toList K) (argEnv [.agg ([.int .i64 o0, .int .i64 o1, .int .i64 o2, .slice o3.a o3.len o3.cap, .slice o4.a o4.len o4.cap]).toArray]) w := cast (by kernel_rfl : F_law08_DiskNone o0 o1 o2 o3 o4 w K = wpc Try.prog A_law08_DiskNone (Try.f10.body.getD .skip) (retK Try.prog [.one (.bool)] Try.f10.results.toList K) (argEnv [.agg ([.int .i64 o0, .int .i64 o1, .int .i64 o2, .slice o3.a o3.len o3.cap, .slice o4.a o4.len o4.cap]).toArray]) w) h
  have h2 : chk Try.prog Try.f10.ntmps A_law08_DiskNone (Try.f10.body.getD .skip) = true := by kernel_rfl
  have h4 : Nat.ble (List.length (α := Value) [.agg ([.int .i64 o0, .int .i64 o1, .int .i64 o2, .slice o3.a o3.len o3.cap, .slice o4.a o4.len o4.cap]).toArray]) Try.f10.ntmps = true := by kernel_rfl
  have h5 : Try.f10.body = some (Try.f10.body.getD .skip) := by kernel_rfl
  have h6 := @fn_sound Try.prog 10 Try.f10 (Try.f10.body.getD .skip) A_law08_DiskNone [.agg ([.int .i64 o0, .int .i64 o1, .int .i64 o2, .slice o3.a o3.len o3.cap, .slice o4.a o4.len o4.cap]).toArray] [.one (.bool)] K w Try.func10 h5 h2 h4 h1
  exact cast (by kernel_rfl : callK Try.prog 10 (List.toArray (α := Value) [.agg ([.int .i64 o0, .int .i64 o1, .int .i64 o2, .slice o3.a o3.len o3.cap, .slice o4.a o4.len o4.cap]).toArray]) [.one (.bool)] K w = C_law08_DiskNone o0 o1 o2 o3 o4 w K) h6
end Go.Proofs.Ytdgebnphgfbegaa
