/- Facts on the types of this program, written by a program (gen.py). -/
import Derived.Test.YtomlobgpeobnfaaProg
import Derived.Test.YtomlobgpeobnfaaLem
set_option maxRecDepth 100000
namespace Go.Proofs.Ytomlobgpeobnfaa
open Go.V
abbrev T_ : TypeId := 0
abbrev T_func : TypeId := 1
abbrev T_int64 : TypeId := 2
abbrev T_int : TypeId := 3
abbrev T_bool : TypeId := 4
abbrev T_uint8 : TypeId := 5
abbrev T_abi_BoundsErrorCode : TypeId := 6
abbrev T_struct_x_int64_y_int_signed_bool_code_abi_BoundsErrorCode : TypeId := 7
abbrev T_runtime_boundsError : TypeId := 8
abbrev T_string : TypeId := 9
abbrev T_runtime_errorString : TypeId := 10
abbrev T_runtime_plainError : TypeId := 11
abbrev T_uintptr : TypeId := 12
abbrev T_struct_msg_string_addr_uintptr : TypeId := 13
abbrev T_runtime_errorAddressString : TypeId := 14
abbrev T_ptr_runtime_TypeAssertionError : TypeId := 15
abbrev T_ptr_runtime_PanicNilError : TypeId := 16
abbrev T_ptr_abi_Type : TypeId := 17
abbrev T_struct_typ_ptr_abi_Type : TypeId := 18
abbrev T_maps_unhashableTypeError : TypeId := 19
abbrev T_interface : TypeId := 20
abbrev T_int32 : TypeId := 21
abbrev T_sl_api_Run : TypeId := 22
theorem app_api_Run {w : World} {base : Nat} {s : Sl} {x : Value} {n : Nat} {cs xs : List Value} {K : Sl → World → Prop} (own : Own w.heap base 32 2 s cs) (hbase : base ≤ w.heap.size) (src : Src Try.prog w x 2 n xs) (hb : (s.len + n) * 8 ≤ 140737488355328)
    (hk : ∀ s' w', Own w'.heap base 32 2 s' (cs ++ xs) → s'.len = s.len + n → Ext (fun b => s.blk = some b) w w' → (s'.blk = s.blk ∨ ∃ b, s'.blk = some b ∧ w.heap.size ≤ b) → K s' w') : AppW Try.prog 22 22 s x K w :=
  app_own (P := Try.prog) (e := 32) (d := .slice 32) (ie := Try.t32) (z := Try.t32.zero.getD .nilFunc) (by kernel_rfl) (by kernel_rfl) (fun k h => by cases h) (by kernel_rfl) (by kernel_rfl) (by kernel_rfl) (by kernel_rfl) (by decide) own hbase src hb hk
abbrev T_func_sl_api_Run_sl_api_Run : TypeId := 23
abbrev T_uint32 : TypeId := 24
abbrev T_api_Errno : TypeId := 25
abbrev T_uint32_sl_api_Run_api_Errno : TypeId := 26
abbrev T_func_sl_api_Run_uint32_sl_api_Run_api_Errno : TypeId := 27
abbrev T_func_sl_api_Run_sl_api_Run_bool : TypeId := 28
abbrev T_func_sl_api_Run_bool : TypeId := 29
abbrev T_func_bool : TypeId := 30
abbrev T_struct_From_uint32_To_uint32 : TypeId := 31
abbrev T_api_Run : TypeId := 32
abbrev T_func_sl_api_Run_uint32_sl_api_Run : TypeId := 33
abbrev T_func_sl_api_Run : TypeId := 34
abbrev T_sl_api_Run_api_Errno : TypeId := 35
abbrev T_func_sl_api_Run_sl_api_Run_sl_api_Run_api_Errno : TypeId := 36
abbrev T_func_sl_api_Run_sl_api_Run_sl_api_Run : TypeId := 37
abbrev T_func_sl_api_Run_sl_api_Run_sl_api_Run_bool : TypeId := 38
abbrev T_func_uint32_uint32_sl_api_Run : TypeId := 39
abbrev T_uint64 : TypeId := 40
abbrev T_uint64_api_Errno : TypeId := 41
abbrev T_func_sl_api_Run_uint64_api_Errno : TypeId := 42
abbrev T_bool_api_Errno : TypeId := 43
abbrev T_func_sl_api_Run_uint32_bool_api_Errno : TypeId := 44
abbrev T_func_sl_api_Run_uint64 : TypeId := 45
abbrev T_func_sl_api_Run_uint32_bool : TypeId := 46
abbrev T_func_uint32_uint32_sl_api_Run_uint32_bool : TypeId := 47
abbrev T_sl_uint8 : TypeId := 49
theorem app_uint8 {w : World} {base : Nat} {s : Sl} {x : Value} {n : Nat} {cs xs : List Value} {K : Sl → World → Prop} (own : Own w.heap base 5 1 s cs) (hbase : base ≤ w.heap.size) (src : Src Try.prog w x 1 n xs) (hb : (s.len + n) * 1 ≤ 140737488355328)
    (hk : ∀ s' w', Own w'.heap base 5 1 s' (cs ++ xs) → s'.len = s.len + n → Ext (fun b => s.blk = some b) w w' → (s'.blk = s.blk ∨ ∃ b, s'.blk = some b ∧ w.heap.size ≤ b) → K s' w') : AppW Try.prog 49 49 s x K w :=
  app_own (P := Try.prog) (e := 5) (d := .slice 5) (ie := Try.t5) (z := Try.t5.zero.getD .nilFunc) (by kernel_rfl) (by kernel_rfl) (fun k h => by cases h) (by kernel_rfl) (by kernel_rfl) (by kernel_rfl) (by kernel_rfl) (by decide) own hbase src hb hk
abbrev T_sl_uint8_api_Errno : TypeId := 50
abbrev T_func_sl_api_Run_sl_uint8_api_Errno : TypeId := 51
abbrev T_func_sl_uint8_sl_uint8_bool : TypeId := 52
abbrev T_func_sl_api_Run_sl_uint8 : TypeId := 53
abbrev T_sl_uint32 : TypeId := 54
theorem app_uint32 {w : World} {base : Nat} {s : Sl} {x : Value} {n : Nat} {cs xs : List Value} {K : Sl → World → Prop} (own : Own w.heap base 24 1 s cs) (hbase : base ≤ w.heap.size) (src : Src Try.prog w x 1 n xs) (hb : (s.len + n) * 4 ≤ 140737488355328)
    (hk : ∀ s' w', Own w'.heap base 24 1 s' (cs ++ xs) → s'.len = s.len + n → Ext (fun b => s.blk = some b) w w' → (s'.blk = s.blk ∨ ∃ b, s'.blk = some b ∧ w.heap.size ≤ b) → K s' w') : AppW Try.prog 54 54 s x K w :=
  app_own (P := Try.prog) (e := 24) (d := .slice 24) (ie := Try.t24) (z := Try.t24.zero.getD .nilFunc) (by kernel_rfl) (by kernel_rfl) (fun k h => by cases h) (by kernel_rfl) (by kernel_rfl) (by kernel_rfl) (by kernel_rfl) (by decide) own hbase src hb hk
abbrev T_sl_uint32_api_Errno : TypeId := 55
abbrev T_func_sl_api_Run_int_sl_uint32_api_Errno : TypeId := 56
abbrev T_func_sl_api_Run_sl_uint32 : TypeId := 57
abbrev T_func_sl_api_Run_int_bool : TypeId := 58
abbrev T_sl_api_Run_api_Errno_int : TypeId := 59
abbrev T_func_sl_uint8_sl_api_Run_api_Errno_int : TypeId := 60
abbrev T_func_sl_uint8_sl_uint8 : TypeId := 61
abbrev T_func_sl_uint8_bool : TypeId := 62
abbrev T_func_sl_api_Run_uint32_uint32_bool : TypeId := 63
abbrev T_func_sl_api_Run_api_Run_sl_api_Run : TypeId := 64
abbrev T_func_sl_api_Run_uint32_int : TypeId := 65
abbrev T_func_uint64_sl_uint8 : TypeId := 66
abbrev T_ptr_pack_Reader : TypeId := 67
abbrev T_func_sl_uint8_ptr_pack_Reader : TypeId := 68
abbrev T_func_int : TypeId := 69
abbrev T_func_uint64 : TypeId := 70
abbrev T_func_uint64_uint64_uint64_bool : TypeId := 71
abbrev T_uint64_bool : TypeId := 72
abbrev T_api_Errno_int : TypeId := 73
abbrev T_func_api_Errno_int : TypeId := 74
abbrev T_uint64_int_api_Errno : TypeId := 75
abbrev T_func_sl_uint8_uint64_int_api_Errno : TypeId := 76
abbrev T_uint : TypeId := 77
abbrev T_struct_b_sl_uint8_at_int_fault_api_Errno : TypeId := 78
abbrev T_pack_Reader : TypeId := 79
abbrev T_func_int_uint64_int_api_Errno : TypeId := 80
abbrev T_func_string : TypeId := 81
abbrev T_struct_interface_ptr_abi_Type_concrete_ptr_abi_Type_asserted_ptr_abi_Type_missingMethod_string : TypeId := 82
abbrev T_runtime_TypeAssertionError : TypeId := 83
abbrev T_0_ptr_runtime_PanicNilError : TypeId := 84
abbrev T_struct_0_ptr_runtime_PanicNilError : TypeId := 85
abbrev T_runtime_PanicNilError : TypeId := 86
abbrev T_abi_TFlag : TypeId := 87
abbrev T_abi_Kind : TypeId := 88
abbrev T_func_unsafe_Pointer_unsafe_Pointer_bool : TypeId := 89
abbrev T_ptr_uint8 : TypeId := 90
abbrev T_abi_NameOff : TypeId := 91
abbrev T_abi_TypeOff : TypeId := 92
abbrev T_struct_Size_uintptr_PtrBytes_uintptr_Hash_uint32_TFlag_abi_TFlag_Align_uint8_FieldAlign_uint8_Kind_abi_Kind_Equal_func_unsafe_Pointer_unsafe_Pointer_bool_GCData_ptr_uint8_Str_abi_NameOff_PtrToThis_abi_TypeOff : TypeId := 93
abbrev T_abi_Type : TypeId := 94
abbrev T_func_uint8 : TypeId := 95
abbrev T_unsafe_Pointer : TypeId := 96
end Go.Proofs.Ytomlobgpeobnfaa
