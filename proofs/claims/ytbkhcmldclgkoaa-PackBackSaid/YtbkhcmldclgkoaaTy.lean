/- Facts on the types of this program, written by a program (gen.py). -/
import Derived.Test.YtbkhcmldclgkoaaProg
import Derived.Test.YtbkhcmldclgkoaaLem
set_option maxRecDepth 100000
namespace Go.Proofs.Ytbkhcmldclgkoaa
open Go.V
abbrev T_ : TypeId := 0
abbrev T_func : TypeId := 1
abbrev T_int64 : TypeId := 2
abbrev T_int : TypeId := 3
abbrev T_bool : TypeId := 4
abbrev T_uint8 : TypeId := 5
abbrev T_abi_BoundsErrorCode : TypeId := 6
abbrev T_struct_x_int64_y_int_signed_bool_code_abi_BoundsErrorCode : TypeId := 7
abbrev T_runtime_boundsError : TypeId := 8
abbrev T_string : TypeId := 9
abbrev T_runtime_errorString : TypeId := 10
abbrev T_runtime_plainError : TypeId := 11
abbrev T_uintptr : TypeId := 12
abbrev T_struct_msg_string_addr_uintptr : TypeId := 13
abbrev T_runtime_errorAddressString : TypeId := 14
abbrev T_ptr_runtime_TypeAssertionError : TypeId := 15
abbrev T_ptr_runtime_PanicNilError : TypeId := 16
abbrev T_ptr_abi_Type : TypeId := 17
abbrev T_struct_typ_ptr_abi_Type : TypeId := 18
abbrev T_maps_unhashableTypeError : TypeId := 19
abbrev T_interface : TypeId := 20
abbrev T_int32 : TypeId := 21
abbrev T_uint64 : TypeId := 22
abbrev T_func_sl_uint8_sl_uint8_bool : TypeId := 23
abbrev T_sl_uint8 : TypeId := 24
theorem app_uint8 {w : World} {base : Nat} {s : Sl} {x : Value} {n : Nat} {cs xs : List Value} {K : Sl → World → Prop} (own : Own w.heap base 5 1 s cs) (hbase : base ≤ w.heap.size) (src : Src Try.prog w x 1 n xs) (hb : (s.len + n) * 1 ≤ 140737488355328)
    (hk : ∀ s' w', Own w'.heap base 5 1 s' (cs ++ xs) → s'.len = s.len + n → Ext (fun b => s.blk = some b) w w' → (s'.blk = s.blk ∨ ∃ b, s'.blk = some b ∧ w.heap.size ≤ b) → K s' w') : AppW Try.prog 24 24 s x K w :=
  app_own (P := Try.prog) (e := 5) (d := .slice 5) (ie := Try.t5) (z := Try.t5.zero.getD .nilFunc) (by kernel_rfl) (by kernel_rfl) (fun k h => by cases h) (by kernel_rfl) (by kernel_rfl) (by kernel_rfl) (by kernel_rfl) (by decide) own hbase src hb hk
abbrev T_func_uint64_sl_uint8 : TypeId := 25
abbrev T_func_bool : TypeId := 26
abbrev T_func_uint64_bool : TypeId := 27
abbrev T_func_sl_uint8_sl_uint8 : TypeId := 28
abbrev T_func_sl_uint8_bool : TypeId := 29
abbrev T_sl_donjonlaw07_Item : TypeId := 30
theorem app_donjonlaw07_Item {w : World} {base : Nat} {s : Sl} {x : Value} {n : Nat} {cs xs : List Value} {K : Sl → World → Prop} (own : Own w.heap base 33 3 s cs) (hbase : base ≤ w.heap.size) (src : Src Try.prog w x 3 n xs) (hb : (s.len + n) * 40 ≤ 140737488355328)
    (hk : ∀ s' w', Own w'.heap base 33 3 s' (cs ++ xs) → s'.len = s.len + n → Ext (fun b => s.blk = some b) w w' → (s'.blk = s.blk ∨ ∃ b, s'.blk = some b ∧ w.heap.size ≤ b) → K s' w') : AppW Try.prog 30 30 s x K w :=
  app_own (P := Try.prog) (e := 33) (d := .slice 33) (ie := Try.t33) (z := Try.t33.zero.getD .nilFunc) (by kernel_rfl) (by kernel_rfl) (fun k h => by cases h) (by kernel_rfl) (by kernel_rfl) (by kernel_rfl) (by kernel_rfl) (by decide) own hbase src hb hk
abbrev T_sl_int : TypeId := 31
theorem app_int {w : World} {base : Nat} {s : Sl} {x : Value} {n : Nat} {cs xs : List Value} {K : Sl → World → Prop} (own : Own w.heap base 3 1 s cs) (hbase : base ≤ w.heap.size) (src : Src Try.prog w x 1 n xs) (hb : (s.len + n) * 8 ≤ 140737488355328)
    (hk : ∀ s' w', Own w'.heap base 3 1 s' (cs ++ xs) → s'.len = s.len + n → Ext (fun b => s.blk = some b) w w' → (s'.blk = s.blk ∨ ∃ b, s'.blk = some b ∧ w.heap.size ≤ b) → K s' w') : AppW Try.prog 31 31 s x K w :=
  app_own (P := Try.prog) (e := 3) (d := .slice 3) (ie := Try.t3) (z := Try.t3.zero.getD .nilFunc) (by kernel_rfl) (by kernel_rfl) (fun k h => by cases h) (by kernel_rfl) (by kernel_rfl) (by kernel_rfl) (by kernel_rfl) (by decide) own hbase src hb hk
abbrev T_struct_N_uint64_Is_bool_Text_sl_uint8 : TypeId := 32
abbrev T_donjonlaw07_Item : TypeId := 33
abbrev T_ptr_pack_Reader : TypeId := 34
abbrev T_func_sl_uint8_ptr_pack_Reader : TypeId := 35
abbrev T_func_int_sl_uint8 : TypeId := 36
abbrev T_func_uint64 : TypeId := 37
abbrev T_api_Errno : TypeId := 38
abbrev T_api_Errno_int : TypeId := 39
abbrev T_func_api_Errno_int : TypeId := 40
abbrev T_func_sl_donjonlaw07_Item_int_bool : TypeId := 41
abbrev T_func_int : TypeId := 42
abbrev T_sl_donjonlaw07_Ask : TypeId := 43
theorem app_donjonlaw07_Ask {w : World} {base : Nat} {s : Sl} {x : Value} {n : Nat} {cs xs : List Value} {K : Sl → World → Prop} (own : Own w.heap base 47 2 s cs) (hbase : base ≤ w.heap.size) (src : Src Try.prog w x 2 n xs) (hb : (s.len + n) * 16 ≤ 140737488355328)
    (hk : ∀ s' w', Own w'.heap base 47 2 s' (cs ++ xs) → s'.len = s.len + n → Ext (fun b => s.blk = some b) w w' → (s'.blk = s.blk ∨ ∃ b, s'.blk = some b ∧ w.heap.size ≤ b) → K s' w') : AppW Try.prog 43 43 s x K w :=
  app_own (P := Try.prog) (e := 47) (d := .slice 47) (ie := Try.t47) (z := Try.t47.zero.getD .nilFunc) (by kernel_rfl) (by kernel_rfl) (fun k h => by cases h) (by kernel_rfl) (by kernel_rfl) (by kernel_rfl) (by kernel_rfl) (by decide) own hbase src hb hk
abbrev T_struct_B_sl_uint8_At_int_Fault_api_Errno : TypeId := 44
abbrev T_donjonref07_Reader : TypeId := 45
abbrev T_struct_Kind_int_Most_int : TypeId := 46
abbrev T_donjonlaw07_Ask : TypeId := 47
abbrev T_func_uint8 : TypeId := 48
abbrev T_func_sl_uint8_sl_donjonlaw07_Ask_bool : TypeId := 49
abbrev T_func_int_bool : TypeId := 50
abbrev T_uint : TypeId := 51
abbrev T_struct_b_sl_uint8_at_int_fault_api_Errno : TypeId := 52
abbrev T_pack_Reader : TypeId := 53
abbrev T_uint64_int_api_Errno : TypeId := 54
abbrev T_func_int_uint64_int_api_Errno : TypeId := 55
abbrev T_ptr_donjonref07_Reader : TypeId := 56
abbrev T_func_sl_uint8_uint64_int_api_Errno : TypeId := 57
abbrev T_func_string : TypeId := 58
abbrev T_struct_interface_ptr_abi_Type_concrete_ptr_abi_Type_asserted_ptr_abi_Type_missingMethod_string : TypeId := 59
abbrev T_runtime_TypeAssertionError : TypeId := 60
abbrev T_0_ptr_runtime_PanicNilError : TypeId := 61
abbrev T_struct_0_ptr_runtime_PanicNilError : TypeId := 62
abbrev T_runtime_PanicNilError : TypeId := 63
abbrev T_uint32 : TypeId := 64
abbrev T_abi_TFlag : TypeId := 65
abbrev T_abi_Kind : TypeId := 66
abbrev T_func_unsafe_Pointer_unsafe_Pointer_bool : TypeId := 67
abbrev T_ptr_uint8 : TypeId := 68
abbrev T_abi_NameOff : TypeId := 69
abbrev T_abi_TypeOff : TypeId := 70
abbrev T_struct_Size_uintptr_PtrBytes_uintptr_Hash_uint32_TFlag_abi_TFlag_Align_uint8_FieldAlign_uint8_Kind_abi_Kind_Equal_func_unsafe_Pointer_unsafe_Pointer_bool_GCData_ptr_uint8_Str_abi_NameOff_PtrToThis_abi_TypeOff : TypeId := 71
abbrev T_abi_Type : TypeId := 72
abbrev T_unsafe_Pointer : TypeId := 73
end Go.Proofs.Ytbkhcmldclgkoaa
