/-
  Printed by a program of this work (vc.py): the verification conditions of functions, and that each is enough for the call. No condition.
-/
import Derived.Test.YtcdmemcmmfgdlaaSound
import Derived.Test.YtcdmemcmmfgdlaaProg
set_option maxRecDepth 100000
set_option maxHeartbeats 4000000
namespace Go.Proofs.Ytcdmemcmmfgdlaa
open Go.Den
namespace F
abbrev main_main : Nat := 0
abbrev gosem_cut : Nat := 1
abbrev gosem_cut_init : Nat := 2
abbrev law20_AlarmOnce : Nat := 3
abbrev law20_AlarmLives : Nat := 4
abbrev law20_AlarmMoves : Nat := 5
abbrev law20_AlarmAll : Nat := 6
abbrev alarm_New : Nat := 7
abbrev law20_alive : Nat := 8
abbrev alarm_Alarm_Set : Nat := 9
abbrev alarm_Alarm_Ring : Nat := 10
abbrev alarm_Alarm_Len : Nat := 11
abbrev ref20_Alarm_Set : Nat := 12
abbrev alarm_Alarm_Drop : Nat := 13
abbrev ref20_Alarm_Drop : Nat := 14
abbrev ref20_Alarm_Ring : Nat := 15
abbrev alarm_Alarm_Next : Nat := 16
abbrev alarm_Alarm_At : Nat := 17
abbrev ref20_Alarm_Find : Nat := 18
abbrev alarm_Alarm_All : Nat := 19
abbrev alarm_Alarm_made : Nat := 20
abbrev alarm_Alarm_put : Nat := 21
abbrev alarm_Alarm_up : Nat := 22
abbrev alarm_Alarm_down : Nat := 23
abbrev alarm_ahead : Nat := 24
abbrev runtime_boundsError_Error : Nat := 25
abbrev runtime_boundsError_RuntimeError : Nat := 26
abbrev runtime_errorString_Error : Nat := 27
abbrev runtime_errorString_RuntimeError : Nat := 28
abbrev runtime_plainError_Error : Nat := 29
abbrev runtime_plainError_RuntimeError : Nat := 30
abbrev runtime_errorAddressString_Error : Nat := 31
abbrev runtime_errorAddressString_RuntimeError : Nat := 32
abbrev runtime_TypeAssertionError_Error : Nat := 33
abbrev runtime_TypeAssertionError_RuntimeError : Nat := 34
abbrev runtime_PanicNilError_Error : Nat := 35
abbrev runtime_PanicNilError_RuntimeError : Nat := 36
abbrev internal_abi_Type_Align : Nat := 37
abbrev internal_runtime_maps_unhashableTypeError_Error : Nat := 38
abbrev internal_runtime_maps_unhashableTypeError_RuntimeError : Nat := 39
abbrev api_Errno_Error : Nat := 40
abbrev internal_abi_Kind_String : Nat := 41
end F
namespace T
abbrev tup_ : Nat := 0
abbrev func1 : Nat := 1
abbrev int64 : Nat := 2
abbrev int : Nat := 3
abbrev bool : Nat := 4
abbrev uint8 : Nat := 5
abbrev internal_abi_BoundsErrorCode : Nat := 6
abbrev st7 : Nat := 7
abbrev runtime_boundsError : Nat := 8
abbrev string : Nat := 9
abbrev runtime_errorString : Nat := 10
abbrev runtime_plainError : Nat := 11
abbrev uintptr : Nat := 12
abbrev st13 : Nat := 13
abbrev runtime_errorAddressString : Nat := 14
abbrev p_runtime_TypeAssertionError : Nat := 15
abbrev p_runtime_PanicNilError : Nat := 16
abbrev p_internal_abi_Type : Nat := 17
abbrev st18 : Nat := 18
abbrev internal_runtime_maps_unhashableTypeError : Nat := 19
abbrev interface20 : Nat := 20
abbrev int32 : Nat := 21
abbrev s_uint16 : Nat := 22
abbrev s_uint8 : Nat := 23
abbrev p_alarm_Alarm : Nat := 24
abbrev func25 : Nat := 25
abbrev func26 : Nat := 26
abbrev api_Errno : Nat := 27
abbrev func28 : Nat := 28
abbrev uint64 : Nat := 29
abbrev uint16 : Nat := 30
abbrev s_bool : Nat := 31
abbrev s_int : Nat := 32
abbrev func33 : Nat := 33
abbrev func34 : Nat := 34
abbrev func35 : Nat := 35
abbrev s_law20_Op : Nat := 36
abbrev p_ref20_Alarm : Nat := 37
abbrev s_ref20_Entry : Nat := 38
abbrev st39 : Nat := 39
abbrev ref20_Alarm : Nat := 40
abbrev st41 : Nat := 41
abbrev law20_Op : Nat := 42
abbrev func43 : Nat := 43
abbrev tup_int_uint64_bool : Nat := 44
abbrev func45 : Nat := 45
abbrev tup_uint64_bool : Nat := 46
abbrev func47 : Nat := 47
abbrev func48 : Nat := 48
abbrev st49 : Nat := 49
abbrev ref20_Entry : Nat := 50
abbrev s_alarm_entry : Nat := 51
abbrev m_int_int : Nat := 52
abbrev st53 : Nat := 53
abbrev alarm_Alarm : Nat := 54
abbrev func55 : Nat := 55
abbrev func56 : Nat := 56
abbrev func57 : Nat := 57
abbrev func58 : Nat := 58
abbrev st59 : Nat := 59
abbrev alarm_entry : Nat := 60
abbrev func61 : Nat := 61
abbrev func62 : Nat := 62
abbrev tup_int_bool : Nat := 63
abbrev func64 : Nat := 64
abbrev a2_int : Nat := 65
abbrev func66 : Nat := 66
abbrev st67 : Nat := 67
abbrev runtime_TypeAssertionError : Nat := 68
abbrev a0_p_runtime_PanicNilError : Nat := 69
abbrev st70 : Nat := 70
abbrev runtime_PanicNilError : Nat := 71
abbrev uint32 : Nat := 72
abbrev internal_abi_TFlag : Nat := 73
abbrev internal_abi_Kind : Nat := 74
abbrev func75 : Nat := 75
abbrev p_uint8 : Nat := 76
abbrev internal_abi_NameOff : Nat := 77
abbrev internal_abi_TypeOff : Nat := 78
abbrev st79 : Nat := 79
abbrev internal_abi_Type : Nat := 80
abbrev unsafePointer81 : Nat := 81
end T
end Go.Proofs.Ytcdmemcmmfgdlaa
