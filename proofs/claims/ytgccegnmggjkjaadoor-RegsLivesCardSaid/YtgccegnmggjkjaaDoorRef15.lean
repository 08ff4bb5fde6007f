/-
  What is proved here: what the document's functions of layer 15 do that write. No condition.
-/
import Derived.Test.YtgccegnmggjkjaaDoorWriter
import Derived.Test.YtgccegnmggjkjaaDoorVcRf
set_option maxRecDepth 100000
namespace Go.Proofs.YtgccegnmggjkjaaDoor
open Go.Den Go.Fields
namespace Fld
variable {h h0 : Heap} {w r : Nat} {S : Nat → Prop} {bs : List UInt8} {e : Int} {R : Value → Heap → Prop}

/-! ### the document's -/
def refI (h0 : Heap) (n0 : Nat) (n : Int) (p : Option Addr) (l c : Nat) (h : Heap) : Prop :=
  ∃ (m : Nat) (d : List UInt8), n = (m : Int) ∧ m < 18446744073709551616 ∧ l = d.length ∧ Own h p l c 1 (bc d) ∧ d ++ encNum m = encNum n0 ∧ Up h0 (inBlk p) h
theorem refByte (m : Nat) : IntKind.wrap .u8 (IntKind.wrap .u64 (128 + (Int.tmod (m : Int) 128))) = ((UInt8.ofNat (m % 128 + 128)).toNat : Int) := by
  have e1 : Int.tmod (m : Int) 128 = ((m % 128 : Nat) : Int) := by rw [Int.tmod_eq_emod_of_nonneg (by omega)]; omega
  rw [e1, wrap_u64 (by omega) (by omega), UInt8.toNat_ofNat', wrap_u8 (by omega) (by omega)]; omega
theorem Up.app {h0 h h' : Heap} {p p' : Option Addr} (u : Up h0 (inBlk p) h) (f : Fr (inBlk p) h h') (g : ∀ c, inBlk p' c → inBlk p c ∨ h.size ≤ c) : Up h0 (inBlk p') h' :=
  u.step ⟨f, g⟩
theorem refNum_ok {n : Int} (k : Nat) (e : n = (k : Int)) (hn : k < 18446744073709551616) (hk : ∀ p c h', Own h' p (encNum k).length c 1 (bc (encNum k)) → Up h (inBlk p) h' → R (.slice p (encNum k).length c) h') :
    CallsH Tryd.prog F.ref15_Num #[.int .u64 n] h R := by
  subst e
  refine ref15_Num.walk ⟨refI h k, fun n _ _ _ _ => n.toNat, ⟨k, [], rfl, hn, rfl, .nil rfl rfl rfl rfl, rfl, ⟨Fr.refl _ _, fun c ⟨a, e, _⟩ => by cases e⟩⟩, ?_⟩
  rintro _ p _ c h1 ⟨m, d, rfl, hm, rfl, o, hd, u⟩
  have hdl : d.length ≤ 10 := by
    have := congrArg List.length hd
    rw [List.length_append] at this
    have := (encNum_len k).2
    omega
  by_cases hgt : (m : Int) > 127
  · simp only [hgt, decide_true, if_true]
    rw [refByte]
    refine den_append1 tU uU o rfl (fun v hv => by simp at hv; subst hv; rfl) (by omega) (by omega) ?_
    intro p' c' h2 o2 f2 g2
    have e2 : IntKind.wrap .u64 (Int.tdiv (m : Int) 128) = ((m / 128 : Nat) : Int) := by
      rw [Int.tdiv_eq_ediv_of_nonneg (by omega), wrap_u64 (by omega) (by omega)]; omega
    rw [e2]
    refine ⟨_, _, _, rfl, ⟨m / 128, d ++ [UInt8.ofNat (m % 128 + 128)], rfl, by omega, by simp, by rw [bc_append]; exact o2, ?_, Up.app u f2 g2⟩, ?_⟩
    · rw [← hd, encNum_step hm, if_pos (by omega)]; simp
    · show Int.toNat ((m / 128 : Nat) : Int) < Int.toNat (m : Int)
      omega
  · simp only [hgt, decide_false, Bool.false_eq_true, if_false]
    have e3 : IntKind.wrap .u8 (m : Int) = ((UInt8.ofNat m).toNat : Int) := by rw [wrap_u8_nat, UInt8.toNat_ofNat']
    rw [e3]
    refine den_append1 tU uU o rfl (fun v hv => by simp at hv; subst hv; rfl) (by omega) (by omega) ?_
    intro p' c' h2 o2 f2 g2
    have e4 : d ++ [UInt8.ofNat m] = encNum k := by rw [← hd, encNum_step hm, if_neg (by omega)]
    have e5 : d.length + 1 = (encNum k).length := by rw [← e4]; simp
    rw [e5] at o2 ⊢
    refine ⟨_, _, _, rfl, hk p' c' h2 ?_ (Up.app u f2 g2)⟩
    rw [← e4, bc_append, e4]; exact o2
theorem refText_ok {p : Option Addr} {n c : Nat} {t : List UInt8} (hr : Row h p (bc t)) (hn : n = t.length) (ht : t.length ≤ 1099511627776) (hk : ∀ p c h', Own h' p (encText t).length c 1 (bc (encText t)) → Up h (inBlk p) h' → R (.slice p (encText t).length c) h') :
    CallsH Tryd.prog F.ref15_Text #[.slice p n c] h R := by
  subst hn
  refine ref15_Text.walk (refNum_ok t.length (wrap_u64 (by omega) (by omega)) (by omega) fun q d h1 o1 u1 => ⟨_, _, _, rfl, ?_⟩)
  have hlen := (encNum_len t.length).2
  refine den_append tU uU o1 (hr.frame u1.fr (fun _ _ => id)) (by rw [bc_len, Nat.mul_one]) (bc_one t) (by omega) (by omega) ?_
  intro p' c' h' o2 _ f2 g
  have e : (encNum t.length).length + t.length = (encText t).length := by unfold encText; rw [List.length_append]
  rw [e] at o2 ⊢
  refine ⟨_, _, _, rfl, hk p' c' h' ?_ (Up.app u1 f2 g)⟩
  unfold encText; rw [bc_append]; exact o2

end Fld
end Go.Proofs.YtgccegnmggjkjaaDoor
