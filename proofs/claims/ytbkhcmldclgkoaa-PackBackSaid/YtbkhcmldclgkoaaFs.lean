/- The texts of the Go functions for the calculus, written by a program (gen.py). -/
import Derived.Test.YtbkhcmldclgkoaaProg
import Derived.Test.YtbkhcmldclgkoaaWpcB
set_option maxRecDepth 100000
namespace Go.Proofs.Ytbkhcmldclgkoaa
open Go.V
def C_law07_PackNums (n : Int) (w : World) (K : Bool → World → Prop) : Prop :=
  Calls Try.prog 3 #[.int .u64 n] w fun e w' => ∃ r0 : Bool, e = .returned (.bool r0) ∧ K r0 w'
def C_law07_PackTexts (b : Sl) (w : World) (K : Bool → World → Prop) : Prop :=
  Calls Try.prog 4 #[.slice b.a b.len b.cap] w fun e w' => ∃ r0 : Bool, e = .returned (.bool r0) ∧ K r0 w'
def C_law07_PackBack (l : Sl) (cut : Int) (w : World) (K : Bool → World → Prop) : Prop :=
  Calls Try.prog 5 #[.slice l.a l.len l.cap, .int .i64 cut] w fun e w' => ∃ r0 : Bool, e = .returned (.bool r0) ∧ K r0 w'
def C_law07_PackOnly (b : Sl) (w : World) (K : Bool → World → Prop) : Prop :=
  Calls Try.prog 6 #[.slice b.a b.len b.cap] w fun e w' => ∃ r0 : Bool, e = .returned (.bool r0) ∧ K r0 w'
def C_law07_PackReads (b : Sl) (l : Sl) (w : World) (K : Bool → World → Prop) : Prop :=
  Calls Try.prog 7 #[.slice b.a b.len b.cap, .slice l.a l.len l.cap] w fun e w' => ∃ r0 : Bool, e = .returned (.bool r0) ∧ K r0 w'
def C_law07_PackNone (most : Int) (w : World) (K : Bool → World → Prop) : Prop :=
  Calls Try.prog 8 #[.int .i64 most] w fun e w' => ∃ r0 : Bool, e = .returned (.bool r0) ∧ K r0 w'
def C_ref01_Same (a : Sl) (b : Sl) (w : World) (K : Bool → World → Prop) : Prop :=
  Calls Try.prog 9 #[.slice a.a a.len a.cap, .slice b.a b.len b.cap] w fun e w' => ∃ r0 : Bool, e = .returned (.bool r0) ∧ K r0 w'
def C_pack_Num (n : Int) (w : World) (K : Sl → World → Prop) : Prop :=
  Calls Try.prog 10 #[.int .u64 n] w fun e w' => ∃ r0 : Sl, e = .returned (.slice r0.a r0.len r0.cap) ∧ K r0 w'
def C_ref07_Num (n : Int) (w : World) (K : Sl → World → Prop) : Prop :=
  Calls Try.prog 11 #[.int .u64 n] w fun e w' => ∃ r0 : Sl, e = .returned (.slice r0.a r0.len r0.cap) ∧ K r0 w'
def C_law07_known  (w : World) (K : Bool → World → Prop) : Prop :=
  Calls Try.prog 12 #[] w fun e w' => ∃ r0 : Bool, e = .returned (.bool r0) ∧ K r0 w'
def C_ref01_Copy (b : Sl) (w : World) (K : Sl → World → Prop) : Prop :=
  Calls Try.prog 13 #[.slice b.a b.len b.cap] w fun e w' => ∃ r0 : Sl, e = .returned (.slice r0.a r0.len r0.cap) ∧ K r0 w'
def C_pack_Text (b : Sl) (w : World) (K : Sl → World → Prop) : Prop :=
  Calls Try.prog 14 #[.slice b.a b.len b.cap] w fun e w' => ∃ r0 : Sl, e = .returned (.slice r0.a r0.len r0.cap) ∧ K r0 w'
def C_ref07_Text (b : Sl) (w : World) (K : Sl → World → Prop) : Prop :=
  Calls Try.prog 15 #[.slice b.a b.len b.cap] w fun e w' => ∃ r0 : Sl, e = .returned (.slice r0.a r0.len r0.cap) ∧ K r0 w'
def C_pack_NewReader (b : Sl) (w : World) (K : Option Addr → World → Prop) : Prop :=
  Calls Try.prog 16 #[.slice b.a b.len b.cap] w fun e w' => ∃ r0 : Option Addr, e = .returned (.pointer r0) ∧ K r0 w'
def C_pack_Reader_Text (r : Option Addr) (most : Int) (w : World) (K : Sl → World → Prop) : Prop :=
  Calls Try.prog 17 #[.pointer r, .int .i64 most] w fun e w' => ∃ r0 : Sl, e = .returned (.slice r0.a r0.len r0.cap) ∧ K r0 w'
def C_pack_Reader_Num (r : Option Addr) (w : World) (K : Int → World → Prop) : Prop :=
  Calls Try.prog 18 #[.pointer r] w fun e w' => ∃ r0 : Int, e = .returned (.int .u64 r0) ∧ K r0 w'
def C_pack_Reader_Done (r : Option Addr) (w : World) (K : Int → Int → World → Prop) : Prop :=
  Calls Try.prog 19 #[.pointer r] w fun e w' => ∃ r0 : Int, ∃ r1 : Int, e = .returned (.tuple #[.int .i64 r0, .int .i64 r1]) ∧ K r0 r1 w'
def C_pack_Reader_Left (r : Option Addr) (w : World) (K : Int → World → Prop) : Prop :=
  Calls Try.prog 20 #[.pointer r] w fun e w' => ∃ r0 : Int, e = .returned (.int .i64 r0) ∧ K r0 w'
def C_ref07_Reader_Num (r : Option Addr) (w : World) (K : Int → World → Prop) : Prop :=
  Calls Try.prog 21 #[.pointer r] w fun e w' => ∃ r0 : Int, e = .returned (.int .u64 r0) ∧ K r0 w'
def C_pack_Reader_Byte (r : Option Addr) (w : World) (K : Int → World → Prop) : Prop :=
  Calls Try.prog 22 #[.pointer r] w fun e w' => ∃ r0 : Int, e = .returned (.int .u8 r0) ∧ K r0 w'
def C_ref07_Reader_Byte (r : Option Addr) (w : World) (K : Int → World → Prop) : Prop :=
  Calls Try.prog 23 #[.pointer r] w fun e w' => ∃ r0 : Int, e = .returned (.int .u8 r0) ∧ K r0 w'
def C_ref07_Reader_Text (r : Option Addr) (most : Int) (w : World) (K : Sl → World → Prop) : Prop :=
  Calls Try.prog 24 #[.pointer r, .int .i64 most] w fun e w' => ∃ r0 : Sl, e = .returned (.slice r0.a r0.len r0.cap) ∧ K r0 w'
def C_ref07_Reader_Done (r : Option Addr) (w : World) (K : Int → Int → World → Prop) : Prop :=
  Calls Try.prog 25 #[.pointer r] w fun e w' => ∃ r0 : Int, ∃ r1 : Int, e = .returned (.tuple #[.int .i64 r0, .int .i64 r1]) ∧ K r0 r1 w'
def C_pack_Reader_ok (r : Option Addr) (w : World) (K : Bool → World → Prop) : Prop :=
  Calls Try.prog 26 #[.pointer r] w fun e w' => ∃ r0 : Bool, e = .returned (.bool r0) ∧ K r0 w'
def C_pack_Reader_number (r : Option Addr) (atv : Int) (w : World) (K : Int → Int → Int → World → Prop) : Prop :=
  Calls Try.prog 27 #[.pointer r, .int .i64 atv] w fun e w' => ∃ r0 : Int, ∃ r1 : Int, ∃ r2 : Int, e = .returned (.tuple #[.int .u64 r0, .int .i64 r1, .int .i64 r2]) ∧ K r0 r1 r2 w'
def C_ref07_Taken (b : Sl) (w : World) (K : Int → Int → Int → World → Prop) : Prop :=
  Calls Try.prog 28 #[.slice b.a b.len b.cap] w fun e w' => ∃ r0 : Int, ∃ r1 : Int, ∃ r2 : Int, e = .returned (.tuple #[.int .u64 r0, .int .i64 r1, .int .i64 r2]) ∧ K r0 r1 r2 w'

def F_ref01_Same (a : Sl) (b : Sl) (w : World) (K : Bool → World → Prop) : Prop :=
  StrC (Cell w) a fun str =>
  StrC (Cell w) b fun str_1 =>
  K (ByteArray.toList str == ByteArray.toList str_1) w
def A_ref01_Same : Ann := (.seq .nil (.seq .nil .nil))
theorem S_ref01_Same {a : Sl} {b : Sl} {w : World} {K : Bool → World → Prop} (h : F_ref01_Same a b w K) : C_ref01_Same a b w K :=
  fn_sound (P := Try.prog) (f := 9) (ann := A_ref01_Same) (args := [.slice a.a a.len a.cap, .slice b.a b.len b.cap]) (tys := [.one (.bool)]) (K := K) Try.func9 (by kernel_rfl : Try.f9.body = some (Try.f9.body.getD .skip)) (by kernel_rfl) (by kernel_rfl)
    (cast (by kernel_rfl : F_ref01_Same a b w K = wpc Try.prog A_ref01_Same (Try.f9.body.getD .skip) (retK Try.prog [.one (.bool)] Try.f9.results.toList K) (argEnv [.slice a.a a.len a.cap, .slice b.a b.len b.cap]) w) h)

def F_pack_Num (n : Int) (w : World) (K : Sl → World → Prop) : Prop :=
  ∃ I0 : Nat → Int → Sl → World → Prop, (∃ m, I0 m n ⟨none, 0, 0⟩ w) ∧ ∀ (_ : Env) (m0 : Nat) (n_1 : Int) (b : Sl) (w1 : World), I0 m0 n_1 b w1 →
  If (decide (n_1 > 127)) (
  Ar .u8 n_1 fun z =>
  Nm (bitI .or .u8 z 128) fun z_1 =>
  NewW w1 (.cells [.int .u8 z_1].toArray 5) fun b_1 w2 =>
  AppW Try.prog 24 24 b (.slice (some (Addr.mk b_1 0 none)) 1 1) (fun s w3 =>
  (0 : Int) ≤ 7 ∧ Nm (Int.fdiv n_1 (2 ^ min (Int.toNat 7) (IntKind.bits .u64))) fun z_2 =>
  ∃ m1, m1 < m0 ∧ I0 m1 z_2 s w3) w2) (
  Ar .u8 n_1 fun z_3 =>
  NewW w1 (.cells [.int .u8 z_3].toArray 5) fun b_2 w4 =>
  AppW Try.prog 24 24 b (.slice (some (Addr.mk b_2 0 none)) 1 1) (fun s_1 w5 =>
  K s_1 w5) w4)
def A_pack_Num : Ann := (.seq .nil (.seq .nil (.seq (.block (.loop [(0, .int .u64), (3, .sl)] 16377 (.seq (.seq .nil (.cond .nil .nil)) (.block (.seq .nil .nil))))) (.seq .nil .nil))))
theorem S_pack_Num {n : Int} {w : World} {K : Sl → World → Prop} (h : F_pack_Num n w K) : C_pack_Num n w K :=
  fn_sound (P := Try.prog) (f := 10) (ann := A_pack_Num) (args := [.int .u64 n]) (tys := [.one (.sl)]) (K := K) Try.func10 (by kernel_rfl : Try.f10.body = some (Try.f10.body.getD .skip)) (by kernel_rfl) (by kernel_rfl)
    (cast (by kernel_rfl : F_pack_Num n w K = wpc Try.prog A_pack_Num (Try.f10.body.getD .skip) (retK Try.prog [.one (.sl)] Try.f10.results.toList K) (argEnv [.int .u64 n]) w) h)

def F_ref07_Num (n : Int) (w : World) (K : Sl → World → Prop) : Prop :=
  If (decide (n < 128)) (
  Ar .u8 n fun z =>
  NewW w (.cells [.int .u8 z].toArray 5) fun b w1 =>
  K ⟨some (Addr.mk b 0 none), 1, 1⟩ w1) (
  (128 : Int) ≠ 0 ∧ Nm (Int.tmod n 128) fun z_1 =>
  Ar .u8 z_1 fun z_2 =>
  Ar .u8 (z_2 + 128) fun z_3 =>
  NewW w (.cells [.int .u8 z_3].toArray 5) fun b_1 w2 =>
  (128 : Int) ≠ 0 ∧ Ar .u64 (Int.tdiv n 128) fun z_4 =>
  C_ref07_Num z_4 w2 fun r w3 =>
  AppW Try.prog 24 24 ⟨some (Addr.mk b_1 0 none), 1, 1⟩ (.slice r.a r.len r.cap) (fun s w4 =>
  K s w4) w3)
def A_ref07_Num : Ann := (.seq .nil (.seq (.seq .nil (.cond (.seq .nil .nil) .nil)) (.seq .nil .nil)))
theorem S_ref07_Num {n : Int} {w : World} {K : Sl → World → Prop} (h : F_ref07_Num n w K) : C_ref07_Num n w K :=
  fn_sound (P := Try.prog) (f := 11) (ann := A_ref07_Num) (args := [.int .u64 n]) (tys := [.one (.sl)]) (K := K) Try.func11 (by kernel_rfl : Try.f11.body = some (Try.f11.body.getD .skip)) (by kernel_rfl) (by kernel_rfl)
    (cast (by kernel_rfl : F_ref07_Num n w K = wpc Try.prog A_ref07_Num (Try.f11.body.getD .skip) (retK Try.prog [.one (.sl)] Try.f11.results.toList K) (argEnv [.int .u64 n]) w) h)

def F_pack_NewReader (b : Sl) (w : World) (K : Option Addr → World → Prop) : Prop :=
  NewW w (.cells [].toArray 5) fun b_1 w1 =>
  AppW Try.prog 24 24 ⟨some (Addr.mk b_1 0 none), 0, 0⟩ (.slice b.a b.len b.cap) (fun s w2 =>
  NewW w2 (.cells [.slice s.a s.len s.cap, .int .i64 0, .int .i64 0].toArray 53) fun b_2 w3 =>
  K (some (Addr.mk b_2 0 none)) w3) w1
def A_pack_NewReader : Ann := (.seq .nil (.seq .nil .nil))
theorem S_pack_NewReader {b : Sl} {w : World} {K : Option Addr → World → Prop} (h : F_pack_NewReader b w K) : C_pack_NewReader b w K :=
  fn_sound (P := Try.prog) (f := 16) (ann := A_pack_NewReader) (args := [.slice b.a b.len b.cap]) (tys := [.one (.ptr)]) (K := K) Try.func16 (by kernel_rfl : Try.f16.body = some (Try.f16.body.getD .skip)) (by kernel_rfl) (by kernel_rfl)
    (cast (by kernel_rfl : F_pack_NewReader b w K = wpc Try.prog A_pack_NewReader (Try.f16.body.getD .skip) (retK Try.prog [.one (.ptr)] Try.f16.results.toList K) (argEnv [.slice b.a b.len b.cap]) w) h)

def F_pack_Reader_ok (r : Option Addr) (w : World) (K : Bool → World → Prop) : Prop :=
  If (!(Option.isNone r)) (
  Nn r fun a =>
  ∃ vv : Int, Cell w (a.add 2) (.int .i64 vv) ∧
  K (vv == 0) w) (
  K false w)
def A_pack_Reader_ok : Ann := (.seq .nil (.seq .nil .nil))
theorem S_pack_Reader_ok {r : Option Addr} {w : World} {K : Bool → World → Prop} (h : F_pack_Reader_ok r w K) : C_pack_Reader_ok r w K :=
  fn_sound (P := Try.prog) (f := 26) (ann := A_pack_Reader_ok) (args := [.pointer r]) (tys := [.one (.bool)]) (K := K) Try.func26 (by kernel_rfl : Try.f26.body = some (Try.f26.body.getD .skip)) (by kernel_rfl) (by kernel_rfl)
    (cast (by kernel_rfl : F_pack_Reader_ok r w K = wpc Try.prog A_pack_Reader_ok (Try.f26.body.getD .skip) (retK Try.prog [.one (.bool)] Try.f26.results.toList K) (argEnv [.pointer r]) w) h)

def F_pack_Reader_number (r : Option Addr) (atv : Int) (w : World) (K : Int → Int → Int → World → Prop) : Prop :=
  ∃ I0 : Nat → Int → Int → World → Prop, (∃ m, I0 m 0 0 w) ∧ ∀ (_ : Env) (m0 : Nat) (n : Int) (i : Int) (w1 : World), I0 m0 n i w1 →
  Ar .i64 (atv + i) fun z =>
  Nn r fun a =>
  ∃ vv : Sl, Cell w1 a (.slice vv.a vv.len vv.cap) ∧
  If (decide (z ≥ ((vv.len : Int)))) (
  K 0 0 4 w1) (
  Nn r fun a_1 =>
  ∃ vv_1 : Sl, Cell w1 a_1 (.slice vv_1.a vv_1.len vv_1.cap) ∧
  Ar .i64 (atv + i) fun z_1 =>
  Ix vv_1.a vv_1.len z_1 1 fun a_2 =>
  ∃ vv_2 : Int, Cell w1 a_2 (.int .u8 vv_2) ∧
  ∃ J1 : World → Prop, (
  If (i == 9) (
  If (decide (vv_2 > 1)) (
  K 0 0 6 w1) (
  J1 w1)) (
  J1 w1)) ∧ ∀ (_ : Env) (w2 : World), J1 w2 →
  Nm (bitI .and .u8 vv_2 127) fun z_2 =>
  Ar .u64 z_2 fun z_3 =>
  Ar .i64 (7 * i) fun z_4 =>
  (0 : Int) ≤ z_4 ∧ Ar .u64 (z_3 * 2 ^ min (Int.toNat z_4) (IntKind.bits .u64)) fun z_5 =>
  Nm (bitI .or .u64 n z_5) fun z_6 =>
  If (decide (vv_2 > 127)) (
  Ar .i64 (i + 1) fun z_7 =>
  ∃ m1, m1 < m0 ∧ I0 m1 z_6 z_7 w2) (
  ∃ J0 : World → Prop, (
  If (vv_2 == 0) (
  If (decide (i > 0)) (
  K 0 0 5 w2) (
  J0 w2)) (
  J0 w2)) ∧ ∀ (_ : Env) (w3 : World), J0 w3 →
  Ar .i64 (atv + i) fun z_8 =>
  Ar .i64 (z_8 + 1) fun z_9 =>
  K z_6 z_9 0 w3))
def A_pack_Reader_number : Ann := (.seq .nil (.seq .nil (.seq .nil (.block (.loop [(7, .int .u64), (8, .int .i64)] 144115188075855856 (.seq (.block (.seq (.seq .nil (.cond (.seq .nil .nil) .nil)) (.seq .nil (.join [] 67645735024 (.seq .nil (.cond (.seq .nil .nil) .nil)) (.seq .nil (.seq (.seq .nil (.cond .nil .nil)) (.join [] 4433230883192944 (.seq .nil (.cond (.seq .nil .nil) .nil)) (.seq .nil .nil)))))))) .nil))))))
theorem S_pack_Reader_number {r : Option Addr} {atv : Int} {w : World} {K : Int → Int → Int → World → Prop} (h : F_pack_Reader_number r atv w K) : C_pack_Reader_number r atv w K :=
  fn_sound (P := Try.prog) (f := 27) (ann := A_pack_Reader_number) (args := [.pointer r, .int .i64 atv]) (tys := [.one (.int .u64), .one (.int .i64), .one (.int .i64)]) (K := K) Try.func27 (by kernel_rfl : Try.f27.body = some (Try.f27.body.getD .skip)) (by kernel_rfl) (by kernel_rfl)
    (cast (by kernel_rfl : F_pack_Reader_number r atv w K = wpc Try.prog A_pack_Reader_number (Try.f27.body.getD .skip) (retK Try.prog [.one (.int .u64), .one (.int .i64), .one (.int .i64)] Try.f27.results.toList K) (argEnv [.pointer r, .int .i64 atv]) w) h)

def F_pack_Reader_Text (r : Option Addr) (most : Int) (w : World) (K : Sl → World → Prop) : Prop :=
  C_pack_Reader_ok r w fun r_1 w1 =>
  If (!r_1) (
  K ⟨none, 0, 0⟩ w1) (
  Nn r fun a =>
  ∃ vv : Int, Cell w1 (a.add 1) (.int .i64 vv) ∧
  C_pack_Reader_number r vv w1 fun r0_1 r1 r2 w2 =>
  ∃ J0 : Int → World → Prop, (
  If (r2 != 0) (
  J0 r2 w2) (
  Nm (iMax most 0) fun z =>
  Ar .u64 z fun z_1 =>
  If (decide (r0_1 > z_1)) (
  J0 3 w2) (
  Nn r fun a_1 =>
  ∃ vv_1 : Sl, Cell w2 a_1 (.slice vv_1.a vv_1.len vv_1.cap) ∧
  Ar .i64 (((vv_1.len : Int)) - r1) fun z_2 =>
  Ar .u64 z_2 fun z_3 =>
  If (decide (r0_1 > z_3)) (
  J0 4 w2) (
  J0 r2 w2)))) ∧ ∀ (_ : Env) (ev : Int) (w3 : World), J0 ev w3 →
  If (ev != 0) (
  Nn r fun a_2 =>
  St1 w3 (a_2.add 2) (.int .i64 ev) fun w4 =>
  K ⟨none, 0, 0⟩ w4) (
  Ar .i64 r0_1 fun z_4 =>
  Ar .i64 (r1 + z_4) fun z_5 =>
  Nn r fun a_3 =>
  St1 w3 (a_3.add 1) (.int .i64 z_5) fun w5 =>
  ∃ S : World → Prop, S (drewW w5) ∧
  Nn r fun a_4 =>
  ∃ vv_2 : Sl, Held S a_4 (.slice vv_2.a vv_2.len vv_2.cap) ∧
  Nn r fun a_5 =>
  ∃ vv_3 : Int, Held S (a_5.add 1) (.int .i64 vv_3) ∧
  Cut vv_2 r1 vv_3 (((vv_2.cap : Nat) : Int)) 1 fun s =>
  NewW (drewW w5) (.cells [].toArray 5) fun b w6 =>
  S w6 ∧
  AppW Try.prog 24 24 ⟨some (Addr.mk b 0 none), 0, 0⟩ (.slice s.a s.len s.cap) (fun s_1 w7 =>
  S w7 ∧
  K s_1 w7) w6))
def A_pack_Reader_Text : Ann := (.seq .nil (.seq (.seq .nil (.cond (.seq .nil .nil) .nil)) (.seq .nil (.join [(7, .int .i64)] 2199021158528 (.block (.seq .nil (.cond .nil (.seq .nil (.cond .nil (.seq .nil (.cond .nil .nil))))))) (.seq (.seq .nil (.cond (.seq .nil (.seq .nil .nil)) .nil)) (.seq .nil (.seq (.draw (.take 1 (.take 2 (.take 3 (.take 4 (.take 5 (.take 6 (.take 7 (.take 8 (.take 9 (.take 10 (.one 0 (.one 11 (.take 12 .fin)))))))))))))) .nil)))))))
theorem S_pack_Reader_Text {r : Option Addr} {most : Int} {w : World} {K : Sl → World → Prop} (h : F_pack_Reader_Text r most w K) : C_pack_Reader_Text r most w K :=
  fn_sound (P := Try.prog) (f := 17) (ann := A_pack_Reader_Text) (args := [.pointer r, .int .i64 most]) (tys := [.one (.sl)]) (K := K) Try.func17 (by kernel_rfl : Try.f17.body = some (Try.f17.body.getD .skip)) (by kernel_rfl) (by kernel_rfl)
    (cast (by kernel_rfl : F_pack_Reader_Text r most w K = wpc Try.prog A_pack_Reader_Text (Try.f17.body.getD .skip) (retK Try.prog [.one (.sl)] Try.f17.results.toList K) (argEnv [.pointer r, .int .i64 most]) w) h)

def F_pack_Reader_Num (r : Option Addr) (w : World) (K : Int → World → Prop) : Prop :=
  C_pack_Reader_ok r w fun r_1 w1 =>
  If (!r_1) (
  K 0 w1) (
  Nn r fun a =>
  ∃ vv : Int, Cell w1 (a.add 1) (.int .i64 vv) ∧
  C_pack_Reader_number r vv w1 fun r0_1 r1 r2 w2 =>
  If (r2 != 0) (
  Nn r fun a_1 =>
  St1 w2 (a_1.add 2) (.int .i64 r2) fun w3 =>
  K 0 w3) (
  Nn r fun a_2 =>
  St1 w2 (a_2.add 1) (.int .i64 r1) fun w4 =>
  K r0_1 w4))
def A_pack_Reader_Num : Ann := (.seq .nil (.seq (.seq .nil (.cond (.seq .nil .nil) .nil)) (.seq .nil (.seq (.seq .nil (.cond (.seq .nil (.seq .nil .nil)) .nil)) (.seq .nil (.seq .nil .nil))))))
theorem S_pack_Reader_Num {r : Option Addr} {w : World} {K : Int → World → Prop} (h : F_pack_Reader_Num r w K) : C_pack_Reader_Num r w K :=
  fn_sound (P := Try.prog) (f := 18) (ann := A_pack_Reader_Num) (args := [.pointer r]) (tys := [.one (.int .u64)]) (K := K) Try.func18 (by kernel_rfl : Try.f18.body = some (Try.f18.body.getD .skip)) (by kernel_rfl) (by kernel_rfl)
    (cast (by kernel_rfl : F_pack_Reader_Num r w K = wpc Try.prog A_pack_Reader_Num (Try.f18.body.getD .skip) (retK Try.prog [.one (.int .u64)] Try.f18.results.toList K) (argEnv [.pointer r]) w) h)

def F_pack_Reader_Done (r : Option Addr) (w : World) (K : Int → Int → World → Prop) : Prop :=
  If (Option.isNone r) (
  K 1 0 w) (
  ∃ J1 : World → Prop, (
  ∃ J0 : Bool → World → Prop, (
  ∃ S : World → Prop, S (drewW w) ∧
  Nn r fun a =>
  ∃ vv : Int, Held S (a.add 2) (.int .i64 vv) ∧
  If (vv == 0) (
  Nn r fun a_1 =>
  ∃ vv_1 : Int, Held S (a_1.add 1) (.int .i64 vv_1) ∧
  Nn r fun a_2 =>
  ∃ vv_2 : Sl, Held S a_2 (.slice vv_2.a vv_2.len vv_2.cap) ∧
  J0 (decide (vv_1 < ((vv_2.len : Int)))) ((drewW w))) (
  J0 false ((drewW w)))) ∧ ∀ (_ : Env) (t : Bool) (w1 : World), J0 t w1 →
  If t (
  ∃ S : World → Prop, S (drewW w1) ∧
  Nn r fun a_3 =>
  ∃ vv_3 : Int, Held S (a_3.add 1) (.int .i64 vv_3) ∧
  K 5 vv_3 ((drewW w1))) (
  J1 w1)) ∧ ∀ (_ : Env) (w2 : World), J1 w2 →
  ∃ S : World → Prop, S (drewW w2) ∧
  Nn r fun a_4 =>
  ∃ vv_4 : Int, Held S (a_4.add 2) (.int .i64 vv_4) ∧
  Nn r fun a_5 =>
  ∃ vv_5 : Int, Held S (a_5.add 1) (.int .i64 vv_5) ∧
  K vv_4 vv_5 ((drewW w2)))
def A_pack_Reader_Done : Ann := (.seq .nil (.seq (.seq .nil (.cond (.seq .nil .nil) .nil)) (.join [] 134217676 (.join [(22, .bool)] 8388544 (.draw (.take 0 (.take 1 (.take 2 (.take 3 (.take 4 (.take 5 (.take 6 (.take 7 (.take 8 (.take 9 (.take 10 (.take 11 (.take 12 (.take 13 (.take 14 (.take 15 (.take 16 .fin)))))))))))))))))) (.cond (.seq (.draw (.take 0 (.take 1 (.take 2 (.take 3 (.take 4 (.take 5 .fin))))))) .nil) .nil)) (.seq (.draw (.take 0 (.take 1 (.take 2 (.take 3 (.take 4 (.take 5 (.take 6 (.take 7 (.take 8 (.take 9 .fin))))))))))) .nil))))
theorem S_pack_Reader_Done {r : Option Addr} {w : World} {K : Int → Int → World → Prop} (h : F_pack_Reader_Done r w K) : C_pack_Reader_Done r w K :=
  fn_sound (P := Try.prog) (f := 19) (ann := A_pack_Reader_Done) (args := [.pointer r]) (tys := [.one (.int .i64), .one (.int .i64)]) (K := K) Try.func19 (by kernel_rfl : Try.f19.body = some (Try.f19.body.getD .skip)) (by kernel_rfl) (by kernel_rfl)
    (cast (by kernel_rfl : F_pack_Reader_Done r w K = wpc Try.prog A_pack_Reader_Done (Try.f19.body.getD .skip) (retK Try.prog [.one (.int .i64), .one (.int .i64)] Try.f19.results.toList K) (argEnv [.pointer r]) w) h)

def F_law07_known  (w : World) (K : Bool → World → Prop) : Prop :=
  NewW w (.cells [.int .u8 2, .int .u8 97, .int .u8 98, .int .u8 128, .int .u8 1].toArray 5) fun b w1 =>
  C_pack_NewReader ⟨some (Addr.mk b 0 none), 5, 5⟩ w1 fun r w2 =>
  If (Option.isNone r) (
  K false w2) (
  C_pack_Reader_Text r 2 w2 fun r_1 w3 =>
  C_pack_Reader_Num r w3 fun r_2 w4 =>
  C_pack_Reader_Done r w4 fun r0_1 r1 w5 =>
  StrC (Cell w5) r_1 fun str =>
  If (ByteArray.toList str == ByteArray.toList (⟨#[97, 98]⟩)) (
  If (r_2 == 128) (
  If (r0_1 == 0) (
  K (r1 == 5) w5) (
  K false w5)) (
  K false w5)) (
  K false w5))
def A_law07_known : Ann := (.seq .nil (.seq .nil (.seq (.seq .nil (.cond (.seq .nil .nil) .nil)) (.seq .nil (.seq .nil (.seq .nil (.seq .nil .nil)))))))
theorem S_law07_known  {w : World} {K : Bool → World → Prop} (h : F_law07_known  w K) : C_law07_known  w K :=
  fn_sound (P := Try.prog) (f := 12) (ann := A_law07_known) (args := []) (tys := [.one (.bool)]) (K := K) Try.func12 (by kernel_rfl : Try.f12.body = some (Try.f12.body.getD .skip)) (by kernel_rfl) (by kernel_rfl)
    (cast (by kernel_rfl : F_law07_known  w K = wpc Try.prog A_law07_known (Try.f12.body.getD .skip) (retK Try.prog [.one (.bool)] Try.f12.results.toList K) (argEnv []) w) h)

def F_law07_PackNums (n : Int) (w : World) (K : Bool → World → Prop) : Prop :=
  C_pack_Num n w fun r w1 =>
  C_ref07_Num n w1 fun r_1 w2 =>
  C_ref01_Same r r_1 w2 fun r_2 w3 =>
  If r_2 (
  C_law07_known  w3 fun r_3 w4 =>
  K r_3 w4) (
  K false w3)
def A_law07_PackNums : Ann := (.seq .nil (.seq .nil .nil))
theorem S_law07_PackNums {n : Int} {w : World} {K : Bool → World → Prop} (h : F_law07_PackNums n w K) : C_law07_PackNums n w K :=
  fn_sound (P := Try.prog) (f := 3) (ann := A_law07_PackNums) (args := [.int .u64 n]) (tys := [.one (.bool)]) (K := K) Try.func3 (by kernel_rfl : Try.f3.body = some (Try.f3.body.getD .skip)) (by kernel_rfl) (by kernel_rfl)
    (cast (by kernel_rfl : F_law07_PackNums n w K = wpc Try.prog A_law07_PackNums (Try.f3.body.getD .skip) (retK Try.prog [.one (.bool)] Try.f3.results.toList K) (argEnv [.int .u64 n]) w) h)

def F_ref01_Copy (b : Sl) (w : World) (K : Sl → World → Prop) : Prop :=
  Ar .i64 (((b.len : Int)) + 3) fun z =>
  MkW w 5 [.int .u8 0] 1 ((b.len : Int)) z fun s w1 =>
  CopyW Try.prog 24 24 s (.slice b.a b.len b.cap) (fun _z_1 w2 =>
  K s w2) w1
def A_ref01_Copy : Ann := (.seq .nil (.seq .nil (.seq .nil (.seq .nil .nil))))
theorem S_ref01_Copy {b : Sl} {w : World} {K : Sl → World → Prop} (h : F_ref01_Copy b w K) : C_ref01_Copy b w K :=
  fn_sound (P := Try.prog) (f := 13) (ann := A_ref01_Copy) (args := [.slice b.a b.len b.cap]) (tys := [.one (.sl)]) (K := K) Try.func13 (by kernel_rfl : Try.f13.body = some (Try.f13.body.getD .skip)) (by kernel_rfl) (by kernel_rfl)
    (cast (by kernel_rfl : F_ref01_Copy b w K = wpc Try.prog A_ref01_Copy (Try.f13.body.getD .skip) (retK Try.prog [.one (.sl)] Try.f13.results.toList K) (argEnv [.slice b.a b.len b.cap]) w) h)

def F_pack_Text (b : Sl) (w : World) (K : Sl → World → Prop) : Prop :=
  Ar .u64 ((b.len : Int)) fun z =>
  C_pack_Num z w fun r w1 =>
  AppW Try.prog 24 24 r (.slice b.a b.len b.cap) (fun s w2 =>
  K s w2) w1
def A_pack_Text : Ann := (.seq .nil (.seq .nil .nil))
theorem S_pack_Text {b : Sl} {w : World} {K : Sl → World → Prop} (h : F_pack_Text b w K) : C_pack_Text b w K :=
  fn_sound (P := Try.prog) (f := 14) (ann := A_pack_Text) (args := [.slice b.a b.len b.cap]) (tys := [.one (.sl)]) (K := K) Try.func14 (by kernel_rfl : Try.f14.body = some (Try.f14.body.getD .skip)) (by kernel_rfl) (by kernel_rfl)
    (cast (by kernel_rfl : F_pack_Text b w K = wpc Try.prog A_pack_Text (Try.f14.body.getD .skip) (retK Try.prog [.one (.sl)] Try.f14.results.toList K) (argEnv [.slice b.a b.len b.cap]) w) h)

def F_ref07_Text (b : Sl) (w : World) (K : Sl → World → Prop) : Prop :=
  Ar .u64 ((b.len : Int)) fun z =>
  C_ref07_Num z w fun r w1 =>
  ∃ I0 : Nat → Sl → Int → World → Prop, (∃ m, I0 m r 0 w1) ∧ ∀ (_ : Env) (m0 : Nat) (l : Sl) (i : Int) (w2 : World), I0 m0 l i w2 →
  If (decide (i < ((b.len : Int)))) (
  Ix b.a b.len i 1 fun a =>
  ∃ vv : Int, Cell w2 a (.int .u8 vv) ∧
  NewW w2 (.cells [.int .u8 vv].toArray 5) fun b_1 w3 =>
  AppW Try.prog 24 24 l (.slice (some (Addr.mk b_1 0 none)) 1 1) (fun s w4 =>
  Ar .i64 (i + 1) fun z_1 =>
  ∃ m1, m1 < m0 ∧ I0 m1 s z_1 w4) w3) (
  K l w2)
def A_ref07_Text : Ann := (.seq .nil (.seq .nil (.seq (.seq .nil (.block (.loop [(3, .sl), (4, .int .i64)] 4193816 (.seq (.seq .nil (.cond .nil .nil)) (.seq (.block .nil) .nil))))) (.seq .nil .nil))))
theorem S_ref07_Text {b : Sl} {w : World} {K : Sl → World → Prop} (h : F_ref07_Text b w K) : C_ref07_Text b w K :=
  fn_sound (P := Try.prog) (f := 15) (ann := A_ref07_Text) (args := [.slice b.a b.len b.cap]) (tys := [.one (.sl)]) (K := K) Try.func15 (by kernel_rfl : Try.f15.body = some (Try.f15.body.getD .skip)) (by kernel_rfl) (by kernel_rfl)
    (cast (by kernel_rfl : F_ref07_Text b w K = wpc Try.prog A_ref07_Text (Try.f15.body.getD .skip) (retK Try.prog [.one (.sl)] Try.f15.results.toList K) (argEnv [.slice b.a b.len b.cap]) w) h)

def F_law07_PackTexts (b : Sl) (w : World) (K : Bool → World → Prop) : Prop :=
  If (decide (((b.len : Int)) > 4096)) (
  C_law07_known  w fun r w1 =>
  K r w1) (
  C_ref01_Copy b w fun r_1 w2 =>
  C_pack_Text r_1 w2 fun r_2 w3 =>
  C_ref07_Text b w3 fun r_3 w4 =>
  C_ref01_Same r_2 r_3 w4 fun r_4 w5 =>
  ∃ I0 : Nat → Int → World → Prop, (∃ m, I0 m 0 w5) ∧ ∀ (_ : Env) (m0 : Nat) (t : Int) (w6 : World), I0 m0 t w6 →
  If (decide (t < ((r_2.len : Int)))) (
  Ix r_2.a r_2.len t 1 fun a =>
  St1 w6 a (.int .u8 7) fun w7 =>
  Ar .i64 (t + 1) fun z =>
  ∃ m1, m1 < m0 ∧ I0 m1 z w7) (
  If r_4 (
  C_ref01_Same r_1 b w6 fun r_5 w8 =>
  If r_5 (
  C_law07_known  w8 fun r_6 w9 =>
  K r_6 w9) (
  K false w8)) (
  K false w6)))
def A_law07_PackTexts : Ann := (.seq .nil (.seq (.seq .nil (.cond (.seq .nil .nil) .nil)) (.seq .nil (.seq .nil (.seq .nil (.seq (.seq .nil (.block (.loop [(21, .int .i64)] 266338368 (.seq .nil (.seq (.cond .nil .nil) (.seq (.block (.seq .nil .nil)) .nil)))))) (.seq .nil .nil)))))))
theorem S_law07_PackTexts {b : Sl} {w : World} {K : Bool → World → Prop} (h : F_law07_PackTexts b w K) : C_law07_PackTexts b w K :=
  fn_sound (P := Try.prog) (f := 4) (ann := A_law07_PackTexts) (args := [.slice b.a b.len b.cap]) (tys := [.one (.bool)]) (K := K) Try.func4 (by kernel_rfl : Try.f4.body = some (Try.f4.body.getD .skip)) (by kernel_rfl) (by kernel_rfl)
    (cast (by kernel_rfl : F_law07_PackTexts b w K = wpc Try.prog A_law07_PackTexts (Try.f4.body.getD .skip) (retK Try.prog [.one (.bool)] Try.f4.results.toList K) (argEnv [.slice b.a b.len b.cap]) w) h)

def F_law07_PackBack (l : Sl) (cut : Int) (w : World) (K : Bool → World → Prop) : Prop :=
  If (decide (((l.len : Int)) > 60)) (
  C_law07_known  w fun r w1 =>
  K r w1) (
  ∃ I1 : Nat → Sl → Sl → Int → World → Prop, (∃ m, I1 m ⟨none, 0, 0⟩ ⟨none, 0, 0⟩ 0 w) ∧ ∀ (_ : Env) (m0 : Nat) (b : Sl) (ends : Sl) (t : Int) (w2 : World), I1 m0 b ends t w2 →
  If (decide (t < ((l.len : Int)))) (
  Ix l.a l.len t 3 fun a =>
  ∃ vv : Sl, Cell w2 (a.add 2) (.slice vv.a vv.len vv.cap) ∧
  If (decide (((vv.len : Int)) > 200)) (
  C_law07_known  w2 fun r_1 w3 =>
  K r_1 w3) (
  Ix l.a l.len t 3 fun a_1 =>
  ∃ vv_1 : Bool, Cell w2 (a_1.add 1) (.bool vv_1) ∧
  If vv_1 (
  Ix l.a l.len t 3 fun a_2 =>
  ∃ vv_2 : Sl, Cell w2 (a_2.add 2) (.slice vv_2.a vv_2.len vv_2.cap) ∧
  C_pack_Text vv_2 w2 fun r_2 w4 =>
  AppW Try.prog 24 24 b (.slice r_2.a r_2.len r_2.cap) (fun s w5 =>
  NewW w5 (.cells [.int .i64 ((s.len : Int))].toArray 3) fun b_1 w6 =>
  AppW Try.prog 31 31 ends (.slice (some (Addr.mk b_1 0 none)) 1 1) (fun s_1 w7 =>
  Ar .i64 (t + 1) fun z =>
  ∃ m1, m1 < m0 ∧ I1 m1 s s_1 z w7) w6) w4) (
  Ix l.a l.len t 3 fun a_3 =>
  ∃ vv_3 : Int, Cell w2 a_3 (.int .u64 vv_3) ∧
  C_pack_Num vv_3 w2 fun r_3 w8 =>
  AppW Try.prog 24 24 b (.slice r_3.a r_3.len r_3.cap) (fun s_2 w9 =>
  NewW w9 (.cells [.int .i64 ((s_2.len : Int))].toArray 3) fun b_2 w10 =>
  AppW Try.prog 31 31 ends (.slice (some (Addr.mk b_2 0 none)) 1 1) (fun s_3 w11 =>
  Ar .i64 (t + 1) fun z_1 =>
  ∃ m1, m1 < m0 ∧ I1 m1 s_2 s_3 z_1 w11) w10) w8))) (
  ∃ J2 : Int → World → Prop, (
  If (decide (cut > 0)) (
  Ar .i64 (((b.len : Int)) + 1) fun z_2 =>
  (z_2 : Int) ≠ 0 ∧ Nm (Int.tmod cut z_2) fun z_3 =>
  J2 z_3 w2) (
  J2 (b.len : Int) w2)) ∧ ∀ (_ : Env) (n : Int) (w12 : World), J2 n w12 →
  ∃ S : World → Prop, S (drewW w12) ∧
  Cut b 0 n (((b.cap : Nat) : Int)) 1 fun s_4 =>
  C_pack_NewReader b (drewW w12) fun r_4 w13 =>
  S w13 ∧
  C_pack_NewReader s_4 w13 fun r_5 w14 =>
  S w14 ∧
  ∃ J1 : World → Prop, (
  If (Option.isNone r_4) (
  K false w14) (
  If (Option.isNone r_5) (
  K false w14) (
  J1 w14))) ∧ ∀ (_ : Env) (w15 : World), J1 w15 →
  ∃ I0 : Nat → Int → World → Prop, (∃ m, I0 m 0 w15) ∧ ∀ (_ : Env) (m0_1 : Nat) (t_1 : Int) (w16 : World), I0 m0_1 t_1 w16 →
  If (decide (t_1 < ((l.len : Int)))) (
  Ix ends.a ends.len t_1 1 fun a_4 =>
  ∃ vv_4 : Int, Cell w16 a_4 (.int .i64 vv_4) ∧
  ∃ J0 : World → Prop, (
  Ix l.a l.len t_1 3 fun a_5 =>
  ∃ vv_5 : Bool, Cell w16 (a_5.add 1) (.bool vv_5) ∧
  If vv_5 (
  C_pack_Reader_Text r_4 200 w16 fun r_6 w17 =>
  C_pack_Reader_Text r_5 200 w17 fun r_7 w18 =>
  ∃ S : World → Prop, S (drewW w18) ∧
  StrC (Held S) r_6 fun str =>
  Ix l.a l.len t_1 3 fun a_6 =>
  ∃ vv_6 : Sl, Held S (a_6.add 2) (.slice vv_6.a vv_6.len vv_6.cap) ∧
  StrC (Held S) vv_6 fun str_1 =>
  If (!(ByteArray.toList str == ByteArray.toList str_1)) (
  K false ((drewW w18))) (
  If (decide (vv_4 ≤ n)) (
  StrC (Held S) r_7 fun str_2 =>
  StrC (Held S) r_6 fun str_3 =>
  If (!(ByteArray.toList str_2 == ByteArray.toList str_3)) (
  K false ((drewW w18))) (
  J0 ((drewW w18)))) (
  J0 ((drewW w18))))) (
  C_pack_Reader_Num r_4 w16 fun r_8 w19 =>
  C_pack_Reader_Num r_5 w19 fun r_9 w20 =>
  Ix l.a l.len t_1 3 fun a_7 =>
  ∃ vv_7 : Int, Cell w20 a_7 (.int .u64 vv_7) ∧
  If (r_8 != vv_7) (
  K false w20) (
  If (decide (vv_4 ≤ n)) (
  If (r_9 != r_8) (
  K false w20) (
  J0 w20)) (
  J0 w20)))) ∧ ∀ (_ : Env) (w21 : World), J0 w21 →
  C_pack_Reader_Done r_5 w21 fun r0_1 _r1 w22 =>
  If (!(decide (vv_4 ≤ n))) (
  If (r0_1 != 4) (
  K false w22) (
  Ar .i64 (t_1 + 1) fun z_4 =>
  ∃ m1_1, m1_1 < m0_1 ∧ I0 m1_1 z_4 w22)) (
  Ar .i64 (t_1 + 1) fun z_5 =>
  ∃ m1_1, m1_1 < m0_1 ∧ I0 m1_1 z_5 w22)) (
  C_pack_Reader_Done r_4 w16 fun r0_2 r1_1 w23 =>
  If (r0_2 == 0) (
  If (r1_1 == ((b.len : Int))) (
  C_law07_known  w23 fun r_10 w24 =>
  K r_10 w24) (
  K false w23)) (
  K false w23))))
def A_law07_PackBack : Ann := (.seq .nil (.seq (.seq .nil (.cond (.seq .nil .nil) .nil)) (.seq .nil (.seq .nil (.seq (.seq .nil (.block (.loop [(5, .sl), (6, .sl), (27, .int .i64)] 36893488147284885744 (.seq .nil (.seq (.cond .nil .nil) (.seq (.block (.seq .nil (.seq (.seq .nil (.cond (.seq .nil .nil) .nil)) (.seq (.seq .nil (.cond .nil .nil)) .nil)))) .nil)))))) (.seq .nil (.join [(8, .int .i64)] 18741891978888904442112 (.seq .nil (.cond .nil .nil)) (.seq (.draw (.take 0 (.take 2 (.take 3 (.take 4 (.one 1 (.one 5 (.take 6 (.take 7 .fin))))))))) (.join [] 76162326635721638006489104 (.seq .nil (.cond (.seq .nil .nil) .nil)) (.seq (.seq .nil (.block (.loop [(88, .int .i64)] 91343852333181432387420817034946343659771525136 (.seq .nil (.seq (.cond .nil .nil) (.seq (.block (.seq .nil (.seq .nil (.join [] 22300745198530464685210689743973174418202640 (.seq .nil (.cond (.seq .nil (.seq (.draw (.take 0 (.take 1 (.take 2 (.take 3 (.take 4 (.take 5 (.take 6 (.take 7 (.take 8 (.take 9 (.take 10 (.take 11 (.take 12 (.take 13 (.take 14 (.take 15 (.take 16 (.take 17 (.take 18 .fin)))))))))))))))))))) (.cond (.seq .nil .nil) .nil))) (.seq .nil (.seq .nil (.cond (.seq .nil .nil) .nil))))) (.seq .nil (.seq .nil (.cond (.seq .nil .nil) .nil))))))) .nil)))))) (.seq .nil (.seq .nil .nil))))))))))))
theorem S_law07_PackBack {l : Sl} {cut : Int} {w : World} {K : Bool → World → Prop} (h : F_law07_PackBack l cut w K) : C_law07_PackBack l cut w K :=
  fn_sound (P := Try.prog) (f := 5) (ann := A_law07_PackBack) (args := [.slice l.a l.len l.cap, .int .i64 cut]) (tys := [.one (.bool)]) (K := K) Try.func5 (by kernel_rfl : Try.f5.body = some (Try.f5.body.getD .skip)) (by kernel_rfl) (by kernel_rfl)
    (cast (by kernel_rfl : F_law07_PackBack l cut w K = wpc Try.prog A_law07_PackBack (Try.f5.body.getD .skip) (retK Try.prog [.one (.bool)] Try.f5.results.toList K) (argEnv [.slice l.a l.len l.cap, .int .i64 cut]) w) h)

def F_pack_Reader_Left (r : Option Addr) (w : World) (K : Int → World → Prop) : Prop :=
  If (Option.isNone r) (
  K 0 w) (
  ∃ S : World → Prop, S (drewW w) ∧
  Nn r fun a =>
  ∃ vv : Sl, Held S a (.slice vv.a vv.len vv.cap) ∧
  Nn r fun a_1 =>
  ∃ vv_1 : Int, Held S (a_1.add 1) (.int .i64 vv_1) ∧
  Ar .i64 (((vv.len : Int)) - vv_1) fun z =>
  K z ((drewW w)))
def A_pack_Reader_Left : Ann := (.seq .nil (.seq (.seq .nil (.cond (.seq .nil .nil) .nil)) (.seq (.draw (.take 0 (.take 1 (.take 2 (.take 3 (.take 4 (.take 5 (.take 6 (.take 7 (.take 8 (.take 9 (.take 10 .fin)))))))))))) .nil)))
theorem S_pack_Reader_Left {r : Option Addr} {w : World} {K : Int → World → Prop} (h : F_pack_Reader_Left r w K) : C_pack_Reader_Left r w K :=
  fn_sound (P := Try.prog) (f := 20) (ann := A_pack_Reader_Left) (args := [.pointer r]) (tys := [.one (.int .i64)]) (K := K) Try.func20 (by kernel_rfl : Try.f20.body = some (Try.f20.body.getD .skip)) (by kernel_rfl) (by kernel_rfl)
    (cast (by kernel_rfl : F_pack_Reader_Left r w K = wpc Try.prog A_pack_Reader_Left (Try.f20.body.getD .skip) (retK Try.prog [.one (.int .i64)] Try.f20.results.toList K) (argEnv [.pointer r]) w) h)

def F_law07_PackOnly (b : Sl) (w : World) (K : Bool → World → Prop) : Prop :=
  If (decide (((b.len : Int)) > 4096)) (
  C_law07_known  w fun r w1 =>
  K r w1) (
  C_pack_NewReader b w fun r_1 w2 =>
  If (Option.isNone r_1) (
  K false w2) (
  ∃ J0 : Sl → World → Prop, (
  ∃ I0 : Nat → Sl → Int → World → Prop, (∃ m, I0 m ⟨none, 0, 0⟩ 0 w2) ∧ ∀ (_ : Env) (m0 : Nat) (again : Sl) (i : Int) (w3 : World), I0 m0 again i w3 →
  If (decide (i ≤ ((b.len : Int)))) (
  C_pack_Reader_Left r_1 w3 fun r_2 w4 =>
  C_pack_Reader_Num r_1 w4 fun r_3 w5 =>
  C_pack_Reader_Left r_1 w5 fun r_4 w6 =>
  If (r_4 == r_2) (
  J0 again w6) (
  C_pack_Num r_3 w6 fun r_5 w7 =>
  C_pack_Reader_Left r_1 w7 fun r_6 w8 =>
  Ar .i64 (r_2 - r_6) fun z =>
  If (((r_5.len : Int)) != z) (
  K false w8) (
  If (decide (((r_5.len : Int)) > 10)) (
  K false w8) (
  AppW Try.prog 24 24 again (.slice r_5.a r_5.len r_5.cap) (fun s w9 =>
  Ar .i64 (i + 1) fun z_1 =>
  ∃ m1, m1 < m0 ∧ I0 m1 s z_1 w9) w8)))) (
  J0 again w3)) ∧ ∀ (_ : Env) (again_1 : Sl) (w10 : World), J0 again_1 w10 →
  ∃ S : World → Prop, S (drewW w10) ∧
  StrC (Held S) again_1 fun str =>
  Cut b 0 ((again_1.len : Int)) (((b.cap : Nat) : Int)) 1 fun s_1 =>
  StrC (Held S) s_1 fun str_1 =>
  If (ByteArray.toList str == ByteArray.toList str_1) (
  C_law07_known  (drewW w10) fun r_7 w11 =>
  S w11 ∧
  K r_7 w11) (
  K false ((drewW w10)))))
def A_law07_PackOnly : Ann := (.seq .nil (.seq (.seq .nil (.cond (.seq .nil .nil) .nil)) (.seq .nil (.seq (.seq .nil (.cond (.seq .nil .nil) .nil)) (.seq .nil (.join [(4, .sl)] 281474976580084 (.seq .nil (.block (.loop [(4, .sl), (5, .int .i64)] 281474976580084 (.seq (.seq .nil (.cond .nil .nil)) (.seq (.block (.seq .nil (.seq .nil (.seq (.seq .nil (.cond .nil .nil)) (.seq .nil (.seq (.seq .nil (.cond (.seq .nil .nil) .nil)) .nil)))))) .nil))))) (.seq (.draw (.take 0 (.take 1 (.take 2 (.take 3 (.take 4 (.take 5 (.take 6 (.take 7 (.take 8 (.one 9 (.take 10 (.take 11 .fin))))))))))))) .nil)))))))
theorem S_law07_PackOnly {b : Sl} {w : World} {K : Bool → World → Prop} (h : F_law07_PackOnly b w K) : C_law07_PackOnly b w K :=
  fn_sound (P := Try.prog) (f := 6) (ann := A_law07_PackOnly) (args := [.slice b.a b.len b.cap]) (tys := [.one (.bool)]) (K := K) Try.func6 (by kernel_rfl : Try.f6.body = some (Try.f6.body.getD .skip)) (by kernel_rfl) (by kernel_rfl)
    (cast (by kernel_rfl : F_law07_PackOnly b w K = wpc Try.prog A_law07_PackOnly (Try.f6.body.getD .skip) (retK Try.prog [.one (.bool)] Try.f6.results.toList K) (argEnv [.slice b.a b.len b.cap]) w) h)

def F_ref07_Taken (b : Sl) (w : World) (K : Int → Int → Int → World → Prop) : Prop :=
  ∃ I0 : Nat → Int → Int → Int → World → Prop, (∃ m, I0 m 0 1 0 w) ∧ ∀ (_ : Env) (m0 : Nat) (n : Int) (byv : Int) (i : Int) (w1 : World), I0 m0 n byv i w1 →
  If (decide (i < ((b.len : Int)))) (
  ∃ J0 : World → Prop, (
  If (i == 9) (
  Ix b.a b.len i 1 fun a =>
  ∃ vv : Int, Cell w1 a (.int .u8 vv) ∧
  If (decide (vv > 1)) (
  K 0 0 6 w1) (
  J0 w1)) (
  J0 w1)) ∧ ∀ (_ : Env) (w2 : World), J0 w2 →
  Ix b.a b.len i 1 fun a_1 =>
  ∃ vv_1 : Int, Cell w2 a_1 (.int .u8 vv_1) ∧
  (128 : Int) ≠ 0 ∧ Nm (Int.tmod vv_1 128) fun z =>
  Ar .u64 z fun z_1 =>
  Ar .u64 (z_1 * byv) fun z_2 =>
  Ar .u64 (n + z_2) fun z_3 =>
  Ar .u64 (byv * 128) fun z_4 =>
  Ix b.a b.len i 1 fun a_2 =>
  ∃ vv_2 : Int, Cell w2 a_2 (.int .u8 vv_2) ∧
  If (decide (vv_2 ≥ 128)) (
  Ar .i64 (i + 1) fun z_5 =>
  ∃ m1, m1 < m0 ∧ I0 m1 z_3 z_4 z_5 w2) (
  Ix b.a b.len i 1 fun a_3 =>
  ∃ vv_3 : Int, Cell w2 a_3 (.int .u8 vv_3) ∧
  If (vv_3 == 0) (
  If (decide (i > 0)) (
  K 0 0 5 w2) (
  Ar .i64 (i + 1) fun z_6 =>
  K z_3 z_6 0 w2)) (
  Ar .i64 (i + 1) fun z_7 =>
  K z_3 z_7 0 w2))) (
  K 0 0 4 w1)
def A_ref07_Taken : Ann := (.seq .nil (.seq .nil (.seq .nil (.seq (.seq .nil (.block (.loop [(5, .int .u64), (6, .int .u64), (7, .int .i64)] 4503599627370492 (.seq (.seq .nil (.cond .nil .nil)) (.seq (.block (.join [] 8372252 (.seq .nil (.cond (.seq .nil .nil) .nil)) (.seq .nil (.seq .nil (.seq (.seq .nil (.cond .nil .nil)) (.seq (.seq .nil (.cond (.seq .nil .nil) .nil)) (.seq .nil .nil))))))) .nil))))) (.seq .nil .nil)))))
theorem S_ref07_Taken {b : Sl} {w : World} {K : Int → Int → Int → World → Prop} (h : F_ref07_Taken b w K) : C_ref07_Taken b w K :=
  fn_sound (P := Try.prog) (f := 28) (ann := A_ref07_Taken) (args := [.slice b.a b.len b.cap]) (tys := [.one (.int .u64), .one (.int .i64), .one (.int .i64)]) (K := K) Try.func28 (by kernel_rfl : Try.f28.body = some (Try.f28.body.getD .skip)) (by kernel_rfl) (by kernel_rfl)
    (cast (by kernel_rfl : F_ref07_Taken b w K = wpc Try.prog A_ref07_Taken (Try.f28.body.getD .skip) (retK Try.prog [.one (.int .u64), .one (.int .i64), .one (.int .i64)] Try.f28.results.toList K) (argEnv [.slice b.a b.len b.cap]) w) h)

def F_ref07_Reader_Num (r : Option Addr) (w : World) (K : Int → World → Prop) : Prop :=
  Nn r fun a =>
  ∃ vv : Int, Cell w (a.add 2) (.int .i64 vv) ∧
  If (vv != 0) (
  K 0 w) (
  ∃ S : World → Prop, S (drewW w) ∧
  Nn r fun a_1 =>
  ∃ vv_1 : Sl, Held S a_1 (.slice vv_1.a vv_1.len vv_1.cap) ∧
  Nn r fun a_2 =>
  ∃ vv_2 : Int, Held S (a_2.add 1) (.int .i64 vv_2) ∧
  Cut vv_1 vv_2 (((vv_1.len : Nat) : Int)) (((vv_1.cap : Nat) : Int)) 1 fun s =>
  C_ref07_Taken s (drewW w) fun r0_1 r1 r2 w1 =>
  S w1 ∧
  Nn r fun a_3 =>
  St1 w1 (a_3.add 2) (.int .i64 r2) fun w2 =>
  Nn r fun a_4 =>
  ∃ vv_3 : Int, Cell w2 (a_4.add 1) (.int .i64 vv_3) ∧
  Ar .i64 (vv_3 + r1) fun z =>
  Nn r fun a_5 =>
  St1 w2 (a_5.add 1) (.int .i64 z) fun w3 =>
  K r0_1 w3)
def A_ref07_Reader_Num : Ann := (.seq .nil (.seq (.seq .nil (.cond (.seq .nil .nil) .nil)) (.seq (.draw (.take 0 (.take 1 (.take 2 (.take 3 (.take 4 (.take 5 (.take 6 (.take 7 (.take 8 (.one 9 (.take 10 (.take 11 (.take 12 (.take 13 (.take 14 (.take 15 (.take 16 .fin)))))))))))))))))) (.seq .nil (.seq .nil (.seq .nil .nil))))))
theorem S_ref07_Reader_Num {r : Option Addr} {w : World} {K : Int → World → Prop} (h : F_ref07_Reader_Num r w K) : C_ref07_Reader_Num r w K :=
  fn_sound (P := Try.prog) (f := 21) (ann := A_ref07_Reader_Num) (args := [.pointer r]) (tys := [.one (.int .u64)]) (K := K) Try.func21 (by kernel_rfl : Try.f21.body = some (Try.f21.body.getD .skip)) (by kernel_rfl) (by kernel_rfl)
    (cast (by kernel_rfl : F_ref07_Reader_Num r w K = wpc Try.prog A_ref07_Reader_Num (Try.f21.body.getD .skip) (retK Try.prog [.one (.int .u64)] Try.f21.results.toList K) (argEnv [.pointer r]) w) h)

def F_pack_Reader_Byte (r : Option Addr) (w : World) (K : Int → World → Prop) : Prop :=
  C_pack_Reader_ok r w fun r_1 w1 =>
  If (!r_1) (
  K 0 w1) (
  ∃ S : World → Prop, S (drewW w1) ∧
  Nn r fun a =>
  ∃ vv : Int, Held S (a.add 1) (.int .i64 vv) ∧
  Nn r fun a_1 =>
  ∃ vv_1 : Sl, Held S a_1 (.slice vv_1.a vv_1.len vv_1.cap) ∧
  If (vv == ((vv_1.len : Int))) (
  Nn r fun a_2 =>
  St1 (drewW w1) (a_2.add 2) (.int .i64 4) fun w2 =>
  K 0 w2) (
  Nn r fun a_3 =>
  ∃ vv_2 : Int, Cell (drewW w1) (a_3.add 1) (.int .i64 vv_2) ∧
  Ar .i64 (vv_2 + 1) fun z =>
  Nn r fun a_4 =>
  St1 (drewW w1) (a_4.add 1) (.int .i64 z) fun w3 =>
  ∃ S : World → Prop, S (drewW w3) ∧
  Nn r fun a_5 =>
  ∃ vv_3 : Sl, Held S a_5 (.slice vv_3.a vv_3.len vv_3.cap) ∧
  Nn r fun a_6 =>
  ∃ vv_4 : Int, Held S (a_6.add 1) (.int .i64 vv_4) ∧
  Ar .i64 (vv_4 - 1) fun z_1 =>
  Ix vv_3.a vv_3.len z_1 1 fun a_7 =>
  ∃ vv_5 : Int, Held S a_7 (.int .u8 vv_5) ∧
  K vv_5 ((drewW w3))))
def A_pack_Reader_Byte : Ann := (.seq .nil (.seq (.seq .nil (.cond (.seq .nil .nil) .nil)) (.seq (.seq (.draw (.take 0 (.take 1 (.take 2 (.take 3 (.take 4 (.take 5 (.take 6 (.take 7 (.take 8 (.take 9 .fin))))))))))) (.cond (.seq .nil (.seq .nil .nil)) .nil)) (.seq .nil (.seq (.draw (.take 0 (.take 1 (.take 2 (.take 3 (.take 4 (.take 5 (.take 6 (.take 7 (.take 8 (.take 9 (.take 10 (.take 11 .fin))))))))))))) .nil)))))
theorem S_pack_Reader_Byte {r : Option Addr} {w : World} {K : Int → World → Prop} (h : F_pack_Reader_Byte r w K) : C_pack_Reader_Byte r w K :=
  fn_sound (P := Try.prog) (f := 22) (ann := A_pack_Reader_Byte) (args := [.pointer r]) (tys := [.one (.int .u8)]) (K := K) Try.func22 (by kernel_rfl : Try.f22.body = some (Try.f22.body.getD .skip)) (by kernel_rfl) (by kernel_rfl)
    (cast (by kernel_rfl : F_pack_Reader_Byte r w K = wpc Try.prog A_pack_Reader_Byte (Try.f22.body.getD .skip) (retK Try.prog [.one (.int .u8)] Try.f22.results.toList K) (argEnv [.pointer r]) w) h)

def F_ref07_Reader_Byte (r : Option Addr) (w : World) (K : Int → World → Prop) : Prop :=
  Nn r fun a =>
  ∃ vv : Int, Cell w (a.add 2) (.int .i64 vv) ∧
  If (vv != 0) (
  K 0 w) (
  ∃ S : World → Prop, S (drewW w) ∧
  Nn r fun a_1 =>
  ∃ vv_1 : Int, Held S (a_1.add 1) (.int .i64 vv_1) ∧
  Nn r fun a_2 =>
  ∃ vv_2 : Sl, Held S a_2 (.slice vv_2.a vv_2.len vv_2.cap) ∧
  If (vv_1 == ((vv_2.len : Int))) (
  Nn r fun a_3 =>
  St1 (drewW w) (a_3.add 2) (.int .i64 4) fun w1 =>
  K 0 w1) (
  Nn r fun a_4 =>
  ∃ vv_3 : Int, Cell (drewW w) (a_4.add 1) (.int .i64 vv_3) ∧
  Ar .i64 (vv_3 + 1) fun z =>
  Nn r fun a_5 =>
  St1 (drewW w) (a_5.add 1) (.int .i64 z) fun w2 =>
  ∃ S : World → Prop, S (drewW w2) ∧
  Nn r fun a_6 =>
  ∃ vv_4 : Sl, Held S a_6 (.slice vv_4.a vv_4.len vv_4.cap) ∧
  Nn r fun a_7 =>
  ∃ vv_5 : Int, Held S (a_7.add 1) (.int .i64 vv_5) ∧
  Ar .i64 (vv_5 - 1) fun z_1 =>
  Ix vv_4.a vv_4.len z_1 1 fun a_8 =>
  ∃ vv_6 : Int, Held S a_8 (.int .u8 vv_6) ∧
  K vv_6 ((drewW w2))))
def A_ref07_Reader_Byte : Ann := (.seq .nil (.seq (.seq .nil (.cond (.seq .nil .nil) .nil)) (.seq (.seq (.draw (.take 0 (.take 1 (.take 2 (.take 3 (.take 4 (.take 5 (.take 6 (.take 7 (.take 8 (.take 9 .fin))))))))))) (.cond (.seq .nil (.seq .nil .nil)) .nil)) (.seq .nil (.seq (.draw (.take 0 (.take 1 (.take 2 (.take 3 (.take 4 (.take 5 (.take 6 (.take 7 (.take 8 (.take 9 (.take 10 (.take 11 .fin))))))))))))) .nil)))))
theorem S_ref07_Reader_Byte {r : Option Addr} {w : World} {K : Int → World → Prop} (h : F_ref07_Reader_Byte r w K) : C_ref07_Reader_Byte r w K :=
  fn_sound (P := Try.prog) (f := 23) (ann := A_ref07_Reader_Byte) (args := [.pointer r]) (tys := [.one (.int .u8)]) (K := K) Try.func23 (by kernel_rfl : Try.f23.body = some (Try.f23.body.getD .skip)) (by kernel_rfl) (by kernel_rfl)
    (cast (by kernel_rfl : F_ref07_Reader_Byte r w K = wpc Try.prog A_ref07_Reader_Byte (Try.f23.body.getD .skip) (retK Try.prog [.one (.int .u8)] Try.f23.results.toList K) (argEnv [.pointer r]) w) h)

def F_ref07_Reader_Text (r : Option Addr) (most : Int) (w : World) (K : Sl → World → Prop) : Prop :=
  Nn r fun a =>
  ∃ vv : Int, Cell w (a.add 2) (.int .i64 vv) ∧
  If (vv != 0) (
  K ⟨none, 0, 0⟩ w) (
  ∃ S : World → Prop, S (drewW w) ∧
  Nn r fun a_1 =>
  ∃ vv_1 : Sl, Held S a_1 (.slice vv_1.a vv_1.len vv_1.cap) ∧
  Nn r fun a_2 =>
  ∃ vv_2 : Int, Held S (a_2.add 1) (.int .i64 vv_2) ∧
  Cut vv_1 vv_2 (((vv_1.len : Nat) : Int)) (((vv_1.cap : Nat) : Int)) 1 fun s =>
  C_ref07_Taken s (drewW w) fun r0_1 r1 r2 w1 =>
  S w1 ∧
  ∃ J1 : Int → World → Prop, (
  If (r2 == 0) (
  If (decide (most ≤ 0)) (
  If (decide (r0_1 > 0)) (
  J1 3 w1) (
  If (decide (most > 0)) (
  Ar .u64 most fun z =>
  If (decide (r0_1 > z)) (
  J1 3 w1) (
  J1 r2 w1)) (
  J1 r2 w1))) (
  If (decide (most > 0)) (
  Ar .u64 most fun z_1 =>
  If (decide (r0_1 > z_1)) (
  J1 3 w1) (
  J1 r2 w1)) (
  J1 r2 w1))) (
  J1 r2 w1)) ∧ ∀ (_ : Env) (ev : Int) (w2 : World), J1 ev w2 →
  ∃ J0 : Int → World → Prop, (
  ∃ S : World → Prop, S (drewW w2) ∧
  If (ev == 0) (
  Nn r fun a_3 =>
  ∃ vv_3 : Sl, Held S a_3 (.slice vv_3.a vv_3.len vv_3.cap) ∧
  Nn r fun a_4 =>
  ∃ vv_4 : Int, Held S (a_4.add 1) (.int .i64 vv_4) ∧
  Ar .i64 (((vv_3.len : Int)) - vv_4) fun z_2 =>
  Ar .i64 (z_2 - r1) fun z_3 =>
  Ar .u64 z_3 fun z_4 =>
  If (decide (r0_1 > z_4)) (
  J0 4 ((drewW w2))) (
  J0 ev ((drewW w2)))) (
  J0 ev ((drewW w2)))) ∧ ∀ (_ : Env) (ev_1 : Int) (w3 : World), J0 ev_1 w3 →
  If (ev_1 != 0) (
  Nn r fun a_5 =>
  St1 w3 (a_5.add 2) (.int .i64 ev_1) fun w4 =>
  K ⟨none, 0, 0⟩ w4) (
  ∃ I0 : Nat → Sl → Int → World → Prop, (∃ m, I0 m ⟨none, 0, 0⟩ 0 w3) ∧ ∀ (_ : Env) (m0 : Nat) (t : Sl) (i : Int) (w5 : World), I0 m0 t i w5 →
  Ar .i64 r0_1 fun z_5 =>
  If (decide (i < z_5)) (
  ∃ S : World → Prop, S (drewW w5) ∧
  Nn r fun a_6 =>
  ∃ vv_5 : Sl, Held S a_6 (.slice vv_5.a vv_5.len vv_5.cap) ∧
  Nn r fun a_7 =>
  ∃ vv_6 : Int, Held S (a_7.add 1) (.int .i64 vv_6) ∧
  Ar .i64 (vv_6 + r1) fun z_6 =>
  Ar .i64 (z_6 + i) fun z_7 =>
  Ix vv_5.a vv_5.len z_7 1 fun a_8 =>
  ∃ vv_7 : Int, Held S a_8 (.int .u8 vv_7) ∧
  NewW (drewW w5) (.cells [.int .u8 vv_7].toArray 5) fun b w6 =>
  S w6 ∧
  AppW Try.prog 24 24 t (.slice (some (Addr.mk b 0 none)) 1 1) (fun s_1 w7 =>
  S w7 ∧
  Ar .i64 (i + 1) fun z_8 =>
  ∃ m1, m1 < m0 ∧ I0 m1 s_1 z_8 w7) w6) (
  Nn r fun a_9 =>
  ∃ vv_8 : Int, Cell w5 (a_9.add 1) (.int .i64 vv_8) ∧
  Ar .i64 (vv_8 + r1) fun z_9 =>
  Ar .i64 r0_1 fun z_10 =>
  Ar .i64 (z_9 + z_10) fun z_11 =>
  Nn r fun a_10 =>
  St1 w5 (a_10.add 1) (.int .i64 z_11) fun w8 =>
  K t w8)))
def A_ref07_Reader_Text : Ann := (.seq .nil (.seq (.seq .nil (.cond (.seq .nil .nil) .nil)) (.seq (.draw (.take 0 (.take 1 (.take 2 (.take 3 (.take 4 (.take 5 (.take 6 (.take 7 (.take 8 (.one 9 (.take 10 (.take 11 (.take 12 (.take 13 (.take 14 (.take 15 (.take 16 .fin)))))))))))))))))) (.join [(7, .int .i64)] 562949416550528 (.seq .nil (.cond .nil .nil)) (.join [(7, .int .i64)] 295147342229399404672 (.seq (.draw (.take 0 (.take 1 (.take 2 (.take 3 (.take 4 (.take 5 (.take 6 (.take 7 (.take 8 (.take 9 (.take 10 (.take 11 (.take 12 (.take 13 (.take 14 (.take 15 (.take 16 (.take 17 (.take 18 .fin)))))))))))))))))))) (.cond .nil .nil)) (.seq (.seq .nil (.cond (.seq .nil (.seq .nil .nil)) .nil)) (.seq .nil (.seq (.seq .nil (.block (.loop [(8, .sl), (9, .int .i64)] 158456306139062743708507046656 (.seq (.seq .nil (.cond .nil .nil)) (.seq (.block (.draw (.take 0 (.take 1 (.take 2 (.take 3 (.take 4 (.take 5 (.take 6 (.take 7 (.take 8 (.take 9 (.take 10 (.take 11 (.take 12 (.take 13 (.take 14 (.one 15 (.one 16 (.take 17 .fin)))))))))))))))))))) .nil))))) (.seq .nil (.seq .nil .nil))))))))))
theorem S_ref07_Reader_Text {r : Option Addr} {most : Int} {w : World} {K : Sl → World → Prop} (h : F_ref07_Reader_Text r most w K) : C_ref07_Reader_Text r most w K :=
  fn_sound (P := Try.prog) (f := 24) (ann := A_ref07_Reader_Text) (args := [.pointer r, .int .i64 most]) (tys := [.one (.sl)]) (K := K) Try.func24 (by kernel_rfl : Try.f24.body = some (Try.f24.body.getD .skip)) (by kernel_rfl) (by kernel_rfl)
    (cast (by kernel_rfl : F_ref07_Reader_Text r most w K = wpc Try.prog A_ref07_Reader_Text (Try.f24.body.getD .skip) (retK Try.prog [.one (.sl)] Try.f24.results.toList K) (argEnv [.pointer r, .int .i64 most]) w) h)

def F_ref07_Reader_Done (r : Option Addr) (w : World) (K : Int → Int → World → Prop) : Prop :=
  ∃ J1 : World → Prop, (
  ∃ J0 : Bool → World → Prop, (
  ∃ S : World → Prop, S (drewW w) ∧
  Nn r fun a =>
  ∃ vv : Int, Held S (a.add 2) (.int .i64 vv) ∧
  If (vv == 0) (
  Nn r fun a_1 =>
  ∃ vv_1 : Int, Held S (a_1.add 1) (.int .i64 vv_1) ∧
  Nn r fun a_2 =>
  ∃ vv_2 : Sl, Held S a_2 (.slice vv_2.a vv_2.len vv_2.cap) ∧
  J0 (decide (vv_1 < ((vv_2.len : Int)))) ((drewW w))) (
  J0 false ((drewW w)))) ∧ ∀ (_ : Env) (t : Bool) (w1 : World), J0 t w1 →
  If t (
  ∃ S : World → Prop, S (drewW w1) ∧
  Nn r fun a_3 =>
  ∃ vv_3 : Int, Held S (a_3.add 1) (.int .i64 vv_3) ∧
  K 5 vv_3 ((drewW w1))) (
  J1 w1)) ∧ ∀ (_ : Env) (w2 : World), J1 w2 →
  ∃ S : World → Prop, S (drewW w2) ∧
  Nn r fun a_4 =>
  ∃ vv_4 : Int, Held S (a_4.add 2) (.int .i64 vv_4) ∧
  Nn r fun a_5 =>
  ∃ vv_5 : Int, Held S (a_5.add 1) (.int .i64 vv_5) ∧
  K vv_4 vv_5 ((drewW w2))
def A_ref07_Reader_Done : Ann := (.seq .nil (.join [] 33554428 (.join [(20, .bool)] 2097136 (.draw (.take 0 (.take 1 (.take 2 (.take 3 (.take 4 (.take 5 (.take 6 (.take 7 (.take 8 (.take 9 (.take 10 (.take 11 (.take 12 (.take 13 (.take 14 (.take 15 (.take 16 .fin)))))))))))))))))) (.cond (.seq (.draw (.take 0 (.take 1 (.take 2 (.take 3 (.take 4 (.take 5 .fin))))))) .nil) .nil)) (.seq (.draw (.take 0 (.take 1 (.take 2 (.take 3 (.take 4 (.take 5 (.take 6 (.take 7 (.take 8 (.take 9 .fin))))))))))) .nil)))
theorem S_ref07_Reader_Done {r : Option Addr} {w : World} {K : Int → Int → World → Prop} (h : F_ref07_Reader_Done r w K) : C_ref07_Reader_Done r w K :=
  fn_sound (P := Try.prog) (f := 25) (ann := A_ref07_Reader_Done) (args := [.pointer r]) (tys := [.one (.int .i64), .one (.int .i64)]) (K := K) Try.func25 (by kernel_rfl : Try.f25.body = some (Try.f25.body.getD .skip)) (by kernel_rfl) (by kernel_rfl)
    (cast (by kernel_rfl : F_ref07_Reader_Done r w K = wpc Try.prog A_ref07_Reader_Done (Try.f25.body.getD .skip) (retK Try.prog [.one (.int .i64), .one (.int .i64)] Try.f25.results.toList K) (argEnv [.pointer r]) w) h)

def F_law07_PackReads (b : Sl) (l : Sl) (w : World) (K : Bool → World → Prop) : Prop :=
  If (decide (((b.len : Int)) > 4096)) (
  C_law07_known  w fun r w1 =>
  K r w1) (
  C_ref01_Copy b w fun r_1 w2 =>
  C_pack_NewReader r_1 w2 fun r_2 w3 =>
  C_ref01_Copy b w3 fun r_3 w4 =>
  NewW w4 (.cells [.slice none 0 0, .int .i64 0, .int .i64 0].toArray 45) fun b_1 w5 =>
  List.length (α := Value) [.slice r_3.a r_3.len r_3.cap, .int .i64 0, .int .i64 0] = 3 ∧ StN w5 (Addr.mk b_1 0 none) [.slice r_3.a r_3.len r_3.cap, .int .i64 0, .int .i64 0] fun w6 =>
  If (Option.isNone r_2) (
  K false w6) (
  ∃ I2 : Nat → Int → World → Prop, (∃ m, I2 m 0 w6) ∧ ∀ (_ : Env) (m0 : Nat) (t : Int) (w7 : World), I2 m0 t w7 →
  If (decide (t < ((r_1.len : Int)))) (
  Ix r_1.a r_1.len t 1 fun a =>
  ∃ vv : Int, Cell w7 a (.int .u8 vv) ∧
  Nm (bitI .xor .u8 vv 255) fun z =>
  Ix r_1.a r_1.len t 1 fun a_1 =>
  St1 w7 a_1 (.int .u8 z) fun w8 =>
  Ar .i64 (t + 1) fun z_1 =>
  ∃ m1, m1 < m0 ∧ I2 m1 z_1 w8) (
  ∃ I1 : Nat → Int → World → Prop, (∃ m, I1 m 0 w7) ∧ ∀ (_ : Env) (m0_1 : Nat) (t_1 : Int) (w9 : World), I1 m0_1 t_1 w9 →
  If (decide (t_1 < ((l.len : Int)))) (
  ∃ J0 : World → Prop, (
  Ix l.a l.len t_1 2 fun a_2 =>
  ∃ vv_1 : Int, Cell w9 a_2 (.int .i64 vv_1) ∧
  If (vv_1 == 1) (
  C_pack_Reader_Num r_2 w9 fun r_4 w10 =>
  C_ref07_Reader_Num (some (Addr.mk b_1 0 none)) w10 fun r_5 w11 =>
  If (r_4 != r_5) (
  K false w11) (
  J0 w11)) (
  If (vv_1 == 2) (
  C_pack_Reader_Byte r_2 w9 fun r_6 w12 =>
  C_ref07_Reader_Byte (some (Addr.mk b_1 0 none)) w12 fun r_7 w13 =>
  If (r_6 != r_7) (
  K false w13) (
  J0 w13)) (
  If (vv_1 == 3) (
  Ix l.a l.len t_1 2 fun a_3 =>
  ∃ vv_2 : Int, Cell w9 (a_3.add 1) (.int .i64 vv_2) ∧
  C_pack_Reader_Text r_2 vv_2 w9 fun r_8 w14 =>
  Ix l.a l.len t_1 2 fun a_4 =>
  ∃ vv_3 : Int, Cell w14 (a_4.add 1) (.int .i64 vv_3) ∧
  C_ref07_Reader_Text (some (Addr.mk b_1 0 none)) vv_3 w14 fun r_9 w15 =>
  C_ref01_Same r_8 r_9 w15 fun r_10 w16 =>
  If (!r_10) (
  K false w16) (
  ∃ I0 : Nat → Int → World → Prop, (∃ m, I0 m 0 w16) ∧ ∀ (_ : Env) (m0_2 : Nat) (t_2 : Int) (w17 : World), I0 m0_2 t_2 w17 →
  If (decide (t_2 < ((r_8.len : Int)))) (
  Ix r_8.a r_8.len t_2 1 fun a_5 =>
  St1 w17 a_5 (.int .u8 7) fun w18 =>
  Ar .i64 (t_2 + 1) fun z_2 =>
  ∃ m1_2, m1_2 < m0_2 ∧ I0 m1_2 z_2 w18) (
  J0 w17))) (
  If (vv_1 == 4) (
  ∃ S : World → Prop, S (drewW w9) ∧
  ∃ vv_4 : Sl, Held S (Addr.mk b_1 0 none) (.slice vv_4.a vv_4.len vv_4.cap) ∧
  ∃ vv_5 : Int, Held S ((Addr.mk b_1 0 none).add 1) (.int .i64 vv_5) ∧
  Ar .i64 (((vv_4.len : Int)) - vv_5) fun z_3 =>
  C_pack_Reader_Left r_2 (drewW w9) fun r_11 w19 =>
  S w19 ∧
  If (r_11 != z_3) (
  K false w19) (
  J0 w19)) (
  J0 w9))))) ∧ ∀ (_ : Env) (w20 : World), J0 w20 →
  C_pack_Reader_Done r_2 w20 fun r0_1 r1 w21 =>
  C_ref07_Reader_Done (some (Addr.mk b_1 0 none)) w21 fun r0_2 r1_1 w22 =>
  If (r0_1 != r0_2) (
  K false w22) (
  If (r1 != r1_1) (
  K false w22) (
  Ar .i64 (t_1 + 1) fun z_4 =>
  ∃ m1_1, m1_1 < m0_1 ∧ I1 m1_1 z_4 w22))) (
  C_law07_known  w9 fun r_12 w23 =>
  K r_12 w23))))
def A_law07_PackReads : Ann := (.seq .nil (.seq (.seq .nil (.cond (.seq .nil .nil) .nil)) (.seq .nil (.seq .nil (.seq .nil (.seq (.seq .nil (.cond (.seq .nil .nil) .nil)) (.seq (.seq .nil (.block (.loop [(31, .int .i64)] 2196875772160 (.seq .nil (.seq (.cond .nil .nil) (.seq (.block (.seq .nil .nil)) .nil)))))) (.seq (.seq .nil (.block (.loop [(43, .int .i64)] 664613997892457936451894734047215120 (.seq .nil (.seq (.cond .nil .nil) (.seq (.block (.seq .nil (.join [] 2535301200456458732624662236176 (.seq .nil (.block (.seq .nil (.cond (.seq .nil (.cond (.seq .nil .nil) .nil)) (.seq .nil (.cond (.seq .nil (.cond (.seq .nil .nil) .nil)) (.seq .nil (.cond (.seq .nil (.seq (.seq .nil (.cond (.seq .nil .nil) .nil)) (.seq .nil (.block (.loop [(83, .int .i64)] 1228268632728463241501476864 (.seq .nil (.seq (.cond .nil .nil) (.seq (.block (.seq .nil .nil)) .nil)))))))) (.seq .nil (.cond (.seq (.draw (.take 0 (.take 2 (.take 3 (.take 4 (.take 5 (.take 6 (.take 7 (.one 1 (.take 8 .fin)))))))))) (.cond (.seq .nil .nil) .nil)) .nil)))))))))) (.seq .nil (.seq .nil (.seq .nil (.cond (.seq .nil .nil) .nil))))))) .nil)))))) (.seq .nil .nil)))))))))
theorem S_law07_PackReads {b : Sl} {l : Sl} {w : World} {K : Bool → World → Prop} (h : F_law07_PackReads b l w K) : C_law07_PackReads b l w K :=
  fn_sound (P := Try.prog) (f := 7) (ann := A_law07_PackReads) (args := [.slice b.a b.len b.cap, .slice l.a l.len l.cap]) (tys := [.one (.bool)]) (K := K) Try.func7 (by kernel_rfl : Try.f7.body = some (Try.f7.body.getD .skip)) (by kernel_rfl) (by kernel_rfl)
    (cast (by kernel_rfl : F_law07_PackReads b l w K = wpc Try.prog A_law07_PackReads (Try.f7.body.getD .skip) (retK Try.prog [.one (.bool)] Try.f7.results.toList K) (argEnv [.slice b.a b.len b.cap, .slice l.a l.len l.cap]) w) h)

def F_law07_PackNone (most : Int) (w : World) (K : Bool → World → Prop) : Prop :=
  C_pack_Reader_Done none w fun r0_1 r1 w1 =>
  C_pack_Reader_Num none w1 fun r w2 =>
  If (r == 0) (
  C_pack_Reader_Byte none w2 fun r_1 w3 =>
  If (r_1 == 0) (
  C_pack_Reader_Text none most w3 fun r_2 w4 =>
  If (((r_2.len : Int)) == 0) (
  C_pack_Reader_Left none w4 fun r_3 w5 =>
  If (r_3 == 0) (
  If (r0_1 == 1) (
  If (r1 == 0) (
  C_law07_known  w5 fun r_4 w6 =>
  K r_4 w6) (
  K false w5)) (
  K false w5)) (
  K false w5)) (
  K false w4)) (
  K false w3)) (
  K false w2)
def A_law07_PackNone : Ann := (.seq .nil (.seq .nil (.seq .nil (.seq .nil .nil))))
theorem S_law07_PackNone {most : Int} {w : World} {K : Bool → World → Prop} (h : F_law07_PackNone most w K) : C_law07_PackNone most w K :=
  fn_sound (P := Try.prog) (f := 8) (ann := A_law07_PackNone) (args := [.int .i64 most]) (tys := [.one (.bool)]) (K := K) Try.func8 (by kernel_rfl : Try.f8.body = some (Try.f8.body.getD .skip)) (by kernel_rfl) (by kernel_rfl)
    (cast (by kernel_rfl : F_law07_PackNone most w K = wpc Try.prog A_law07_PackNone (Try.f8.body.getD .skip) (retK Try.prog [.one (.bool)] Try.f8.results.toList K) (argEnv [.int .i64 most]) w) h)
end Go.Proofs.Ytbkhcmldclgkoaa
