/-
  Printed by a program of this work (vc.py): the verification conditions of functions, and that each is enough for the call. No condition.
-/
import Derived.Test.YtdabecfpdlpgbaaSound
import Derived.Test.YtdabecfpdlpgbaaProg
set_option maxRecDepth 100000
set_option maxHeartbeats 4000000
namespace Go.Proofs.Ytdabecfpdlpgbaa
open Go.Den
namespace F
abbrev main_main : Nat := 0
abbrev gosem_cut : Nat := 1
abbrev gosem_cut_init : Nat := 2
abbrev law15_FieldsSizes : Nat := 3
abbrev law15_FieldsWrite : Nat := 4
abbrev law15_FieldsBack : Nat := 5
abbrev fields_New : Nat := 6
abbrev fields_Writer_Num : Nat := 7
abbrev fields_Writer_Bytes : Nat := 8
abbrev law15_alive : Nat := 9
abbrev ref15_Num : Nat := 10
abbrev fields_Writer_Int : Nat := 11
abbrev fields_Writer_Bool : Nat := 12
abbrev fields_Writer_Text : Nat := 13
abbrev ref15_Text : Nat := 14
abbrev fields_Read : Nat := 15
abbrev fields_Reader_Num : Nat := 16
abbrev fields_Reader_Int : Nat := 17
abbrev fields_Reader_Bool : Nat := 18
abbrev fields_Reader_Text : Nat := 19
abbrev fields_Reader_End : Nat := 20
abbrev slices_Clone_s_byte_byte : Nat := 21
abbrev fields_Reader_fine : Nat := 22
abbrev fields_fault_fail : Nat := 23
abbrev fields_Reader_atMost : Nat := 24
abbrev runtime_boundsError_Error : Nat := 25
abbrev runtime_boundsError_RuntimeError : Nat := 26
abbrev runtime_errorString_Error : Nat := 27
abbrev runtime_errorString_RuntimeError : Nat := 28
abbrev runtime_plainError_Error : Nat := 29
abbrev runtime_plainError_RuntimeError : Nat := 30
abbrev runtime_errorAddressString_Error : Nat := 31
abbrev runtime_errorAddressString_RuntimeError : Nat := 32
abbrev runtime_TypeAssertionError_Error : Nat := 33
abbrev runtime_TypeAssertionError_RuntimeError : Nat := 34
abbrev runtime_PanicNilError_Error : Nat := 35
abbrev runtime_PanicNilError_RuntimeError : Nat := 36
abbrev internal_abi_Type_Align : Nat := 37
abbrev internal_runtime_maps_unhashableTypeError_Error : Nat := 38
abbrev internal_runtime_maps_unhashableTypeError_RuntimeError : Nat := 39
abbrev api_Errno_Error : Nat := 40
abbrev internal_abi_Kind_String : Nat := 41
end F
namespace T
abbrev tup_ : Nat := 0
abbrev func1 : Nat := 1
abbrev int64 : Nat := 2
abbrev int : Nat := 3
abbrev bool : Nat := 4
abbrev uint8 : Nat := 5
abbrev internal_abi_BoundsErrorCode : Nat := 6
abbrev st7 : Nat := 7
abbrev runtime_boundsError : Nat := 8
abbrev string : Nat := 9
abbrev runtime_errorString : Nat := 10
abbrev runtime_plainError : Nat := 11
abbrev uintptr : Nat := 12
abbrev st13 : Nat := 13
abbrev runtime_errorAddressString : Nat := 14
abbrev p_runtime_TypeAssertionError : Nat := 15
abbrev p_runtime_PanicNilError : Nat := 16
abbrev p_internal_abi_Type : Nat := 17
abbrev st18 : Nat := 18
abbrev internal_runtime_maps_unhashableTypeError : Nat := 19
abbrev interface20 : Nat := 20
abbrev int32 : Nat := 21
abbrev uint64 : Nat := 22
abbrev s_uint8 : Nat := 23
abbrev p_fields_Writer : Nat := 24
abbrev func25 : Nat := 25
abbrev func26 : Nat := 26
abbrev func27 : Nat := 27
abbrev func28 : Nat := 28
abbrev func29 : Nat := 29
abbrev s_law15_Field : Nat := 30
abbrev st31 : Nat := 31
abbrev fields_Writer : Nat := 32
abbrev st33 : Nat := 33
abbrev law15_Field : Nat := 34
abbrev func35 : Nat := 35
abbrev func36 : Nat := 36
abbrev func37 : Nat := 37
abbrev func38 : Nat := 38
abbrev func39 : Nat := 39
abbrev func40 : Nat := 40
abbrev p_fields_Reader : Nat := 41
abbrev func42 : Nat := 42
abbrev func43 : Nat := 43
abbrev func44 : Nat := 44
abbrev api_Errno : Nat := 45
abbrev func46 : Nat := 46
abbrev func47 : Nat := 47
abbrev uint : Nat := 48
abbrev st49 : Nat := 49
abbrev fields_fault : Nat := 50
abbrev st51 : Nat := 51
abbrev fields_Reader : Nat := 52
abbrev func53 : Nat := 53
abbrev func54 : Nat := 54
abbrev p_fields_fault : Nat := 55
abbrev func56 : Nat := 56
abbrev st57 : Nat := 57
abbrev runtime_TypeAssertionError : Nat := 58
abbrev a0_p_runtime_PanicNilError : Nat := 59
abbrev st60 : Nat := 60
abbrev runtime_PanicNilError : Nat := 61
abbrev uint32 : Nat := 62
abbrev internal_abi_TFlag : Nat := 63
abbrev internal_abi_Kind : Nat := 64
abbrev func65 : Nat := 65
abbrev p_uint8 : Nat := 66
abbrev internal_abi_NameOff : Nat := 67
abbrev internal_abi_TypeOff : Nat := 68
abbrev st69 : Nat := 69
abbrev internal_abi_Type : Nat := 70
abbrev unsafePointer71 : Nat := 71
end T
end Go.Proofs.Ytdabecfpdlpgbaa
