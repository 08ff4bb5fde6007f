/-
  Printed by a program of this work (vc.py): the verification conditions of functions, and that each is enough for the call. No condition.
-/
import Derived.Test.YtjjmbohnchngcaaSound
import Derived.Test.YtjjmbohnchngcaaProg
set_option maxRecDepth 100000
set_option maxHeartbeats 4000000
namespace Go.Proofs.Ytjjmbohnchngcaa
open Go.Den
namespace F
abbrev main_main : Nat := 0
abbrev gosem_cut : Nat := 1
abbrev gosem_cut_init : Nat := 2
abbrev law25_QuotaLives : Nat := 3
abbrev law25_QuotaSums : Nat := 4
abbrev law25_QuotaFits : Nat := 5
abbrev quota_New : Nat := 6
abbrev law25_alive : Nat := 7
abbrev quota_Purse_Give : Nat := 8
abbrev ref25_Purse_Give : Nat := 9
abbrev quota_Purse_Take : Nat := 10
abbrev ref25_Purse_Take : Nat := 11
abbrev quota_Purse_All : Nat := 12
abbrev ref25_Purse_Used : Nat := 13
abbrev quota_Purse_Used : Nat := 14
abbrev quota_Purse_Fits : Nat := 15
abbrev quota_Purse_ask : Nat := 16
abbrev quota_Purse_made : Nat := 17
abbrev runtime_boundsError_Error : Nat := 18
abbrev runtime_boundsError_RuntimeError : Nat := 19
abbrev runtime_errorString_Error : Nat := 20
abbrev runtime_errorString_RuntimeError : Nat := 21
abbrev runtime_plainError_Error : Nat := 22
abbrev runtime_plainError_RuntimeError : Nat := 23
abbrev runtime_errorAddressString_Error : Nat := 24
abbrev runtime_errorAddressString_RuntimeError : Nat := 25
abbrev runtime_TypeAssertionError_Error : Nat := 26
abbrev runtime_TypeAssertionError_RuntimeError : Nat := 27
abbrev runtime_PanicNilError_Error : Nat := 28
abbrev runtime_PanicNilError_RuntimeError : Nat := 29
abbrev internal_abi_Type_Align : Nat := 30
abbrev internal_runtime_maps_unhashableTypeError_Error : Nat := 31
abbrev internal_runtime_maps_unhashableTypeError_RuntimeError : Nat := 32
abbrev api_Errno_Error : Nat := 33
abbrev internal_abi_Kind_String : Nat := 34
end F
namespace T
abbrev tup_ : Nat := 0
abbrev func1 : Nat := 1
abbrev int64 : Nat := 2
abbrev int : Nat := 3
abbrev bool : Nat := 4
abbrev uint8 : Nat := 5
abbrev internal_abi_BoundsErrorCode : Nat := 6
abbrev st7 : Nat := 7
abbrev runtime_boundsError : Nat := 8
abbrev string : Nat := 9
abbrev runtime_errorString : Nat := 10
abbrev runtime_plainError : Nat := 11
abbrev uintptr : Nat := 12
abbrev st13 : Nat := 13
abbrev runtime_errorAddressString : Nat := 14
abbrev p_runtime_TypeAssertionError : Nat := 15
abbrev p_runtime_PanicNilError : Nat := 16
abbrev p_internal_abi_Type : Nat := 17
abbrev st18 : Nat := 18
abbrev internal_runtime_maps_unhashableTypeError : Nat := 19
abbrev interface20 : Nat := 20
abbrev int32 : Nat := 21
abbrev s_law25_Op : Nat := 22
abbrev p_quota_Purse : Nat := 23
abbrev api_Errno : Nat := 24
abbrev tup_p_quota_Purse_api_Errno : Nat := 25
abbrev func26 : Nat := 26
abbrev func27 : Nat := 27
abbrev p_ref25_Purse : Nat := 28
abbrev s_ref25_Deal : Nat := 29
abbrev st30 : Nat := 30
abbrev ref25_Purse : Nat := 31
abbrev st32 : Nat := 32
abbrev law25_Op : Nat := 33
abbrev func34 : Nat := 34
abbrev func35 : Nat := 35
abbrev func36 : Nat := 36
abbrev func37 : Nat := 37
abbrev m_int_int : Nat := 38
abbrev st39 : Nat := 39
abbrev quota_Purse : Nat := 40
abbrev func41 : Nat := 41
abbrev func42 : Nat := 42
abbrev func43 : Nat := 43
abbrev st44 : Nat := 44
abbrev ref25_Deal : Nat := 45
abbrev func46 : Nat := 46
abbrev st47 : Nat := 47
abbrev runtime_TypeAssertionError : Nat := 48
abbrev a0_p_runtime_PanicNilError : Nat := 49
abbrev st50 : Nat := 50
abbrev runtime_PanicNilError : Nat := 51
abbrev uint32 : Nat := 52
abbrev internal_abi_TFlag : Nat := 53
abbrev internal_abi_Kind : Nat := 54
abbrev func55 : Nat := 55
abbrev p_uint8 : Nat := 56
abbrev internal_abi_NameOff : Nat := 57
abbrev internal_abi_TypeOff : Nat := 58
abbrev st59 : Nat := 59
abbrev internal_abi_Type : Nat := 60
abbrev unsafePointer61 : Nat := 61
end T
end Go.Proofs.Ytjjmbohnchngcaa
