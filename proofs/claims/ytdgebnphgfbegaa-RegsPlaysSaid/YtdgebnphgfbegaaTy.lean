/- Facts on the types of this program, written by a program (gen.py). -/
import Derived.Test.YtdgebnphgfbegaaProg
import Derived.Test.YtdgebnphgfbegaaHeapB
set_option maxRecDepth 100000
namespace Go.Proofs.Ytdgebnphgfbegaa
open Go.V
abbrev T_ : TypeId := 0
abbrev T_func : TypeId := 1
abbrev T_int64 : TypeId := 2
abbrev T_int : TypeId := 3
abbrev T_bool : TypeId := 4
abbrev T_uint8 : TypeId := 5
abbrev T_abi_BoundsErrorCode : TypeId := 6
abbrev T_struct_x_int64_y_int_signed_bool_code_abi_BoundsErrorCode : TypeId := 7
abbrev T_runtime_boundsError : TypeId := 8
abbrev T_string : TypeId := 9
abbrev T_runtime_errorString : TypeId := 10
abbrev T_runtime_plainError : TypeId := 11
abbrev T_uintptr : TypeId := 12
abbrev T_struct_msg_string_addr_uintptr : TypeId := 13
abbrev T_runtime_errorAddressString : TypeId := 14
abbrev T_ptr_runtime_TypeAssertionError : TypeId := 15
abbrev T_ptr_runtime_PanicNilError : TypeId := 16
abbrev T_ptr_abi_Type : TypeId := 17
abbrev T_struct_typ_ptr_abi_Type : TypeId := 18
abbrev T_maps_unhashableTypeError : TypeId := 19
abbrev T_interface : TypeId := 20
abbrev T_int32 : TypeId := 21
abbrev T_sl_donjonlaw08_Op : TypeId := 22
theorem app_donjonlaw08_Op {w : World} {base : Nat} {s : Sl} {x : Value} {n : Nat} {cs xs : List Value} {K : Sl → World → Prop} (own : Own w.heap base 32 5 s cs) (hbase : base ≤ w.heap.size) (src : Src Try.prog w x 5 n xs) (hb : (s.len + n) * 72 ≤ 140737488355328)
    (hk : ∀ s' w', Own w'.heap base 32 5 s' (cs ++ xs) → s'.len = s.len + n → Ext (fun b => s.blk = some b) w w' → (s'.blk = s.blk ∨ ∃ b, s'.blk = some b ∧ w.heap.size ≤ b) → K s' w') : AppW Try.prog 22 22 s x K w :=
  app_own (P := Try.prog) (e := 32) (d := .slice 32) (ie := Try.t32) (z := Try.t32.zero.getD .nilFunc) (by kernel_rfl) (by kernel_rfl) (fun k h => by cases h) (by kernel_rfl) (by kernel_rfl) (by kernel_rfl) (by kernel_rfl) (by decide) own hbase src hb hk
theorem copy_donjonlaw08_Op {w : World} {d x : Sl} {b off : Nat} {row xs : List Value} {T : TypeId} {K : Int → World → Prop} (hd : d.a = some ⟨b, off, none⟩) (hb : w.heap[b]? = some (.cells row.toArray T (0, 0))) (hx : Rd w.heap x 5 xs)
    (hle : off + min x.len d.len * 5 ≤ row.length) (hk : ∀ w', Wrt w b (.cells (setL row off (xs.take (min x.len d.len * 5))).toArray T (0, 0)) w' → K (min x.len d.len : Nat) w') : CopyW Try.prog 22 22 d x.v K w :=
  copy_at (P := Try.prog) (e := 32) (ie := Try.t32) (by kernel_rfl) (by kernel_rfl) (by kernel_rfl) hd hb hx hle hk
abbrev T_sl_uint8 : TypeId := 23
theorem app_uint8 {w : World} {base : Nat} {s : Sl} {x : Value} {n : Nat} {cs xs : List Value} {K : Sl → World → Prop} (own : Own w.heap base 5 1 s cs) (hbase : base ≤ w.heap.size) (src : Src Try.prog w x 1 n xs) (hb : (s.len + n) * 1 ≤ 140737488355328)
    (hk : ∀ s' w', Own w'.heap base 5 1 s' (cs ++ xs) → s'.len = s.len + n → Ext (fun b => s.blk = some b) w w' → (s'.blk = s.blk ∨ ∃ b, s'.blk = some b ∧ w.heap.size ≤ b) → K s' w') : AppW Try.prog 23 23 s x K w :=
  app_own (P := Try.prog) (e := 5) (d := .slice 5) (ie := Try.t5) (z := Try.t5.zero.getD .nilFunc) (by kernel_rfl) (by kernel_rfl) (fun k h => by cases h) (by kernel_rfl) (by kernel_rfl) (by kernel_rfl) (by kernel_rfl) (by decide) own hbase src hb hk
theorem copy_uint8 {w : World} {d x : Sl} {b off : Nat} {row xs : List Value} {T : TypeId} {K : Int → World → Prop} (hd : d.a = some ⟨b, off, none⟩) (hb : w.heap[b]? = some (.cells row.toArray T (0, 0))) (hx : Rd w.heap x 1 xs)
    (hle : off + min x.len d.len * 1 ≤ row.length) (hk : ∀ w', Wrt w b (.cells (setL row off (xs.take (min x.len d.len * 1))).toArray T (0, 0)) w' → K (min x.len d.len : Nat) w') : CopyW Try.prog 23 23 d x.v K w :=
  copy_at (P := Try.prog) (e := 5) (ie := Try.t5) (by kernel_rfl) (by kernel_rfl) (by kernel_rfl) hd hb hx hle hk
abbrev T_func_bool : TypeId := 24
abbrev T_ptr_disk_Disk : TypeId := 25
abbrev T_api_Errno : TypeId := 26
abbrev T_ptr_disk_Disk_api_Errno : TypeId := 27
abbrev T_func_int_ptr_disk_Disk_api_Errno : TypeId := 28
abbrev T_8_sl_uint8 : TypeId := 29
abbrev T_func_uint8_sl_uint8 : TypeId := 30
abbrev T_struct_Kind_int_I_int_At_int_B_sl_uint8_Masks_sl_uint8 : TypeId := 31
abbrev T_donjonlaw08_Op : TypeId := 32
abbrev T_func_int_sl_uint8_api_Errno : TypeId := 33
abbrev T_func_api_Errno : TypeId := 34
abbrev T_func_int : TypeId := 35
abbrev T_func_sl_uint8_api_Errno : TypeId := 36
abbrev T_sl_uint8_api_Errno : TypeId := 37
abbrev T_func_sl_donjonlaw08_Op_sl_donjonlaw08_Op_sl_uint8_bool : TypeId := 39
abbrev T_uint64 : TypeId := 40
abbrev T_ptr_regs_Regs : TypeId := 41
abbrev T_ptr_regs_Regs_api_Errno : TypeId := 42
abbrev T_func_ptr_disk_Disk_uint64_sl_sl_uint8_ptr_regs_Regs_api_Errno : TypeId := 43
abbrev T_uint64_api_Errno : TypeId := 44
abbrev T_func_uint64_api_Errno : TypeId := 45
abbrev T_func_uint64 : TypeId := 47
abbrev T_func_uint64_int_bool : TypeId := 48
abbrev T_sl_sl_uint8 : TypeId := 49
theorem app_sl_uint8 {w : World} {base : Nat} {s : Sl} {x : Value} {n : Nat} {cs xs : List Value} {K : Sl → World → Prop} (own : Own w.heap base 23 1 s cs) (hbase : base ≤ w.heap.size) (src : Src Try.prog w x 1 n xs) (hb : (s.len + n) * 24 ≤ 140737488355328)
    (hk : ∀ s' w', Own w'.heap base 23 1 s' (cs ++ xs) → s'.len = s.len + n → Ext (fun b => s.blk = some b) w w' → (s'.blk = s.blk ∨ ∃ b, s'.blk = some b ∧ w.heap.size ≤ b) → K s' w') : AppW Try.prog 49 49 s x K w :=
  app_own (P := Try.prog) (e := 23) (d := .slice 23) (ie := Try.t23) (z := Try.t23.zero.getD .nilFunc) (by kernel_rfl) (by kernel_rfl) (fun k h => by cases h) (by kernel_rfl) (by kernel_rfl) (by kernel_rfl) (by kernel_rfl) (by decide) own hbase src hb hk
theorem copy_sl_uint8 {w : World} {d x : Sl} {b off : Nat} {row xs : List Value} {T : TypeId} {K : Int → World → Prop} (hd : d.a = some ⟨b, off, none⟩) (hb : w.heap[b]? = some (.cells row.toArray T (0, 0))) (hx : Rd w.heap x 1 xs)
    (hle : off + min x.len d.len * 1 ≤ row.length) (hk : ∀ w', Wrt w b (.cells (setL row off (xs.take (min x.len d.len * 1))).toArray T (0, 0)) w' → K (min x.len d.len : Nat) w') : CopyW Try.prog 49 49 d x.v K w :=
  copy_at (P := Try.prog) (e := 23) (ie := Try.t23) (by kernel_rfl) (by kernel_rfl) (by kernel_rfl) hd hb hx hle hk
abbrev T_sl_int : TypeId := 50
theorem app_int {w : World} {base : Nat} {s : Sl} {x : Value} {n : Nat} {cs xs : List Value} {K : Sl → World → Prop} (own : Own w.heap base 3 1 s cs) (hbase : base ≤ w.heap.size) (src : Src Try.prog w x 1 n xs) (hb : (s.len + n) * 8 ≤ 140737488355328)
    (hk : ∀ s' w', Own w'.heap base 3 1 s' (cs ++ xs) → s'.len = s.len + n → Ext (fun b => s.blk = some b) w w' → (s'.blk = s.blk ∨ ∃ b, s'.blk = some b ∧ w.heap.size ≤ b) → K s' w') : AppW Try.prog 50 50 s x K w :=
  app_own (P := Try.prog) (e := 3) (d := .slice 3) (ie := Try.t3) (z := Try.t3.zero.getD .nilFunc) (by kernel_rfl) (by kernel_rfl) (fun k h => by cases h) (by kernel_rfl) (by kernel_rfl) (by kernel_rfl) (by kernel_rfl) (by decide) own hbase src hb hk
theorem copy_int {w : World} {d x : Sl} {b off : Nat} {row xs : List Value} {T : TypeId} {K : Int → World → Prop} (hd : d.a = some ⟨b, off, none⟩) (hb : w.heap[b]? = some (.cells row.toArray T (0, 0))) (hx : Rd w.heap x 1 xs)
    (hle : off + min x.len d.len * 1 ≤ row.length) (hk : ∀ w', Wrt w b (.cells (setL row off (xs.take (min x.len d.len * 1))).toArray T (0, 0)) w' → K (min x.len d.len : Nat) w') : CopyW Try.prog 50 50 d x.v K w :=
  copy_at (P := Try.prog) (e := 3) (ie := Try.t3) (by kernel_rfl) (by kernel_rfl) (by kernel_rfl) hd hb hx hle hk
abbrev T_func_sl_sl_uint8_sl_int_bool : TypeId := 51
abbrev T_func_sl_donjonlaw08_Op_int_int_bool : TypeId := 53
abbrev T_func_ptr_disk_Disk : TypeId := 54
abbrev T_func_sl_donjonlaw08_Op_int_bool : TypeId := 55
abbrev T_sl_donjonlaw09_Op : TypeId := 56
theorem app_donjonlaw09_Op {w : World} {base : Nat} {s : Sl} {x : Value} {n : Nat} {cs xs : List Value} {K : Sl → World → Prop} (own : Own w.heap base 59 8 s cs) (hbase : base ≤ w.heap.size) (src : Src Try.prog w x 8 n xs) (hb : (s.len + n) * 96 ≤ 140737488355328)
    (hk : ∀ s' w', Own w'.heap base 59 8 s' (cs ++ xs) → s'.len = s.len + n → Ext (fun b => s.blk = some b) w w' → (s'.blk = s.blk ∨ ∃ b, s'.blk = some b ∧ w.heap.size ≤ b) → K s' w') : AppW Try.prog 56 56 s x K w :=
  app_own (P := Try.prog) (e := 59) (d := .slice 59) (ie := Try.t59) (z := Try.t59.zero.getD .nilFunc) (by kernel_rfl) (by kernel_rfl) (fun k h => by cases h) (by kernel_rfl) (by kernel_rfl) (by kernel_rfl) (by kernel_rfl) (by decide) own hbase src hb hk
theorem copy_donjonlaw09_Op {w : World} {d x : Sl} {b off : Nat} {row xs : List Value} {T : TypeId} {K : Int → World → Prop} (hd : d.a = some ⟨b, off, none⟩) (hb : w.heap[b]? = some (.cells row.toArray T (0, 0))) (hx : Rd w.heap x 8 xs)
    (hle : off + min x.len d.len * 8 ≤ row.length) (hk : ∀ w', Wrt w b (.cells (setL row off (xs.take (min x.len d.len * 8))).toArray T (0, 0)) w' → K (min x.len d.len : Nat) w') : CopyW Try.prog 56 56 d x.v K w :=
  copy_at (P := Try.prog) (e := 59) (ie := Try.t59) (by kernel_rfl) (by kernel_rfl) (by kernel_rfl) hd hb hx hle hk
abbrev T_func_sl_sl_uint8_sl_donjonlaw09_Op_bool : TypeId := 57
abbrev T_struct_Kind_int_N_uint64_Size_int_Disk_donjonlaw08_Op : TypeId := 58
abbrev T_donjonlaw09_Op : TypeId := 59
abbrev T_func_uint64_sl_donjonlaw09_Op_bool : TypeId := 60
abbrev T_func_int_bool : TypeId := 61
abbrev T_func_sl_donjonlaw08_Op_bool : TypeId := 62
abbrev T_ptr_donjonref08_Disk : TypeId := 63
abbrev T_func_int_ptr_donjonref08_Disk : TypeId := 64
abbrev T_ptr_disk_Disk_bool : TypeId := 65
abbrev T_func_ptr_disk_Disk_ptr_donjonref08_Disk_donjonlaw08_Op_ptr_disk_Disk_bool : TypeId := 66
abbrev T_sl_donjonref08_Wait : TypeId := 67
theorem app_donjonref08_Wait {w : World} {base : Nat} {s : Sl} {x : Value} {n : Nat} {cs xs : List Value} {K : Sl → World → Prop} (own : Own w.heap base 92 2 s cs) (hbase : base ≤ w.heap.size) (src : Src Try.prog w x 2 n xs) (hb : (s.len + n) * 32 ≤ 140737488355328)
    (hk : ∀ s' w', Own w'.heap base 92 2 s' (cs ++ xs) → s'.len = s.len + n → Ext (fun b => s.blk = some b) w w' → (s'.blk = s.blk ∨ ∃ b, s'.blk = some b ∧ w.heap.size ≤ b) → K s' w') : AppW Try.prog 67 67 s x K w :=
  app_own (P := Try.prog) (e := 92) (d := .slice 92) (ie := Try.t92) (z := Try.t92.zero.getD .nilFunc) (by kernel_rfl) (by kernel_rfl) (fun k h => by cases h) (by kernel_rfl) (by kernel_rfl) (by kernel_rfl) (by kernel_rfl) (by decide) own hbase src hb hk
theorem copy_donjonref08_Wait {w : World} {d x : Sl} {b off : Nat} {row xs : List Value} {T : TypeId} {K : Int → World → Prop} (hd : d.a = some ⟨b, off, none⟩) (hb : w.heap[b]? = some (.cells row.toArray T (0, 0))) (hx : Rd w.heap x 2 xs)
    (hle : off + min x.len d.len * 2 ≤ row.length) (hk : ∀ w', Wrt w b (.cells (setL row off (xs.take (min x.len d.len * 2))).toArray T (0, 0)) w' → K (min x.len d.len : Nat) w') : CopyW Try.prog 67 67 d x.v K w :=
  copy_at (P := Try.prog) (e := 92) (ie := Try.t92) (by kernel_rfl) (by kernel_rfl) (by kernel_rfl) hd hb hx hle hk
abbrev T_struct_Now_sl_sl_uint8_Firm_sl_sl_uint8_Waits_sl_donjonref08_Wait_Steps_uint64_Fail_int_Cut_int_Down_bool : TypeId := 68
abbrev T_donjonref08_Disk : TypeId := 69
abbrev T_func_sl_uint8_sl_uint8_bool : TypeId := 70
abbrev T_func_int_sl_donjonlaw08_Op_bool : TypeId := 71
abbrev T_func_int_int_sl_uint8_api_Errno : TypeId := 72
abbrev T_func_donjonlaw08_Op_bool : TypeId := 73
abbrev T_func_sl_uint8_sl_uint8 : TypeId := 74
abbrev T_ptr_donjonref09_Regs : TypeId := 75
abbrev T_func_ptr_donjonref08_Disk_uint64_sl_sl_uint8_ptr_donjonref09_Regs : TypeId := 76
abbrev T_struct_D_ptr_donjonref08_Disk_Limit_uint64_Reserved_uint64_Committed_uint64_Draws_sl_sl_uint8 : TypeId := 77
abbrev T_donjonref09_Regs : TypeId := 78
abbrev T_func_uint64_sl_sl_uint8_sl_donjonlaw09_Op_bool : TypeId := 79
abbrev T_sl_disk_block : TypeId := 80
theorem app_disk_block {w : World} {base : Nat} {s : Sl} {x : Value} {n : Nat} {cs xs : List Value} {K : Sl → World → Prop} (own : Own w.heap base 85 256 s cs) (hbase : base ≤ w.heap.size) (src : Src Try.prog w x 256 n xs) (hb : (s.len + n) * 256 ≤ 140737488355328)
    (hk : ∀ s' w', Own w'.heap base 85 256 s' (cs ++ xs) → s'.len = s.len + n → Ext (fun b => s.blk = some b) w w' → (s'.blk = s.blk ∨ ∃ b, s'.blk = some b ∧ w.heap.size ≤ b) → K s' w') : AppW Try.prog 80 80 s x K w :=
  app_own (P := Try.prog) (e := 85) (d := .slice 85) (ie := Try.t85) (z := Try.t85.zero.getD .nilFunc) (by kernel_rfl) (by kernel_rfl) (fun k h => by cases h) (by kernel_rfl) (by kernel_rfl) (by kernel_rfl) (by kernel_rfl) (by decide) own hbase src hb hk
theorem copy_disk_block {w : World} {d x : Sl} {b off : Nat} {row xs : List Value} {T : TypeId} {K : Int → World → Prop} (hd : d.a = some ⟨b, off, none⟩) (hb : w.heap[b]? = some (.cells row.toArray T (0, 0))) (hx : Rd w.heap x 256 xs)
    (hle : off + min x.len d.len * 256 ≤ row.length) (hk : ∀ w', Wrt w b (.cells (setL row off (xs.take (min x.len d.len * 256))).toArray T (0, 0)) w' → K (min x.len d.len : Nat) w') : CopyW Try.prog 80 80 d x.v K w :=
  copy_at (P := Try.prog) (e := 85) (ie := Try.t85) (by kernel_rfl) (by kernel_rfl) (by kernel_rfl) hd hb hx hle hk
abbrev T_sl_disk_write : TypeId := 81
theorem app_disk_write {w : World} {base : Nat} {s : Sl} {x : Value} {n : Nat} {cs xs : List Value} {K : Sl → World → Prop} (own : Own w.heap base 87 257 s cs) (hbase : base ≤ w.heap.size) (src : Src Try.prog w x 257 n xs) (hb : (s.len + n) * 264 ≤ 140737488355328)
    (hk : ∀ s' w', Own w'.heap base 87 257 s' (cs ++ xs) → s'.len = s.len + n → Ext (fun b => s.blk = some b) w w' → (s'.blk = s.blk ∨ ∃ b, s'.blk = some b ∧ w.heap.size ≤ b) → K s' w') : AppW Try.prog 81 81 s x K w :=
  app_own (P := Try.prog) (e := 87) (d := .slice 87) (ie := Try.t87) (z := Try.t87.zero.getD .nilFunc) (by kernel_rfl) (by kernel_rfl) (fun k h => by cases h) (by kernel_rfl) (by kernel_rfl) (by kernel_rfl) (by kernel_rfl) (by decide) own hbase src hb hk
theorem copy_disk_write {w : World} {d x : Sl} {b off : Nat} {row xs : List Value} {T : TypeId} {K : Int → World → Prop} (hd : d.a = some ⟨b, off, none⟩) (hb : w.heap[b]? = some (.cells row.toArray T (0, 0))) (hx : Rd w.heap x 257 xs)
    (hle : off + min x.len d.len * 257 ≤ row.length) (hk : ∀ w', Wrt w b (.cells (setL row off (xs.take (min x.len d.len * 257))).toArray T (0, 0)) w' → K (min x.len d.len : Nat) w') : CopyW Try.prog 81 81 d x.v K w :=
  copy_at (P := Try.prog) (e := 87) (ie := Try.t87) (by kernel_rfl) (by kernel_rfl) (by kernel_rfl) hd hb hx hle hk
abbrev T_struct_now_sl_disk_block_firm_sl_disk_block_waits_sl_disk_write_steps_uint64_fail_int_cut_int_down_bool : TypeId := 82
abbrev T_disk_Disk : TypeId := 83
abbrev T_256_uint8 : TypeId := 84
abbrev T_disk_block : TypeId := 85
abbrev T_struct_at_int_b_disk_block : TypeId := 86
abbrev T_disk_write : TypeId := 87
abbrev T_struct_beside_ptr_disk_Disk_limit_uint64_reserved_uint64_committed_uint64_draws_sl_sl_uint8 : TypeId := 88
abbrev T_regs_Regs : TypeId := 89
abbrev T_func_sl_uint8 : TypeId := 90
abbrev T_struct_At_int_B_sl_uint8 : TypeId := 91
abbrev T_donjonref08_Wait : TypeId := 92
abbrev T_func_string : TypeId := 93
abbrev T_struct_interface_ptr_abi_Type_concrete_ptr_abi_Type_asserted_ptr_abi_Type_missingMethod_string : TypeId := 94
abbrev T_runtime_TypeAssertionError : TypeId := 95
abbrev T_0_ptr_runtime_PanicNilError : TypeId := 96
abbrev T_struct_0_ptr_runtime_PanicNilError : TypeId := 97
abbrev T_runtime_PanicNilError : TypeId := 98
abbrev T_uint32 : TypeId := 99
abbrev T_abi_TFlag : TypeId := 100
abbrev T_abi_Kind : TypeId := 101
abbrev T_func_unsafe_Pointer_unsafe_Pointer_bool : TypeId := 102
abbrev T_ptr_uint8 : TypeId := 103
abbrev T_abi_NameOff : TypeId := 104
abbrev T_abi_TypeOff : TypeId := 105
abbrev T_struct_Size_uintptr_PtrBytes_uintptr_Hash_uint32_TFlag_abi_TFlag_Align_uint8_FieldAlign_uint8_Kind_abi_Kind_Equal_func_unsafe_Pointer_unsafe_Pointer_bool_GCData_ptr_uint8_Str_abi_NameOff_PtrToThis_abi_TypeOff : TypeId := 106
abbrev T_abi_Type : TypeId := 107
abbrev T_unsafe_Pointer : TypeId := 108
end Go.Proofs.Ytdgebnphgfbegaa
