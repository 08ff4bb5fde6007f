/-
  Printed by a program of this work (vc.py): the verification conditions of functions, and that each is enough for the call. No condition.
-/
import Derived.Test.YtgccegnmggjkjaaNames
import Derived.Test.YtgccegnmggjkjaaStep
set_option maxRecDepth 100000
set_option maxHeartbeats 4000000
namespace Go.Proofs.Ytgccegnmggjkjaa
open Go.Den
def eid_Eid.at (h : Heap) (b : Nat) (f0 : Bool) (f1 : Int) (f2 : Int) (f3 : ByteArray) (f4 : ByteArray) : Prop := h[b]? = some (.cells #[.bool f0, .int .u64 f1, .int .u64 f2, .string f3, .string f4] T.eid_Eid (0, 0))
theorem eid_Eid.ld {h : Heap} {b : Nat} {f0 : Bool} {f1 : Int} {f2 : Int} {f3 : ByteArray} {f4 : ByteArray} {K : Bool → Int → Int → ByteArray → ByteArray → Prop} (hb : eid_Eid.at h b f0 f1 f2 f3 f4) (hk : K f0 f1 f2 f3 f4) : eid_Eid.LD h ⟨b, 0, none⟩ K :=
  ⟨_, cell_at hb rfl, _, cell_at hb rfl, _, cell_at hb rfl, _, cell_at hb rfl, _, cell_at hb rfl, hk⟩
theorem eid_Eid.ldA {h : Heap} {a : Addr} {f0 : Bool} {f1 : Int} {f2 : Int} {f3 : ByteArray} {f4 : ByteArray} {K : Bool → Int → Int → ByteArray → ByteArray → Prop} (hb : heldL a [.bool f0, .int .u64 f1, .int .u64 f2, .string f3, .string f4] 0 h) (hk : K f0 f1 f2 f3 f4) : eid_Eid.LD h a K := by
  obtain ⟨q0, q1, q2, q3, q4, _⟩ := hb
  rw [add_zero_addr] at q0
  exact ⟨_, q0, _, q1, _, q2, _, q3, _, q4, hk⟩
theorem eid_Eid.held {h : Heap} {b : Nat} {f0 : Bool} {f1 : Int} {f2 : Int} {f3 : ByteArray} {f4 : ByteArray} (hb : eid_Eid.at h b f0 f1 f2 f3 f4) : heldL ⟨b, 0, none⟩ [.bool f0, .int .u64 f1, .int .u64 f2, .string f3, .string f4] 0 h :=
  heldL_blk hb (fun j v hj => by rw [Nat.zero_add]; simpa using hj)
theorem eid_Eid.new {h : Heap} {f0 : Bool} {f1 : Int} {f2 : Int} {f3 : ByteArray} {f4 : ByteArray} {K : Nat → Heap → Prop} (hk : ∀ b h', b = h.size → eid_Eid.at h' b f0 f1 f2 f3 f4 → Fr (fun _ => False) h h' → K b h') : NewP h (.cells #[.bool false, .int .u64 0, .int .u64 0, .string (⟨#[]⟩ : ByteArray), .string (⟨#[]⟩ : ByteArray)] T.eid_Eid) fun b h_0 => eid_Eid.ST h_0 ⟨b, 0, none⟩ f0 f1 f2 f3 f4 (K b) :=
  newP_of (storeP_push (by simp) (storeP_push (by simp) (storeP_push (by simp) (storeP_push (by simp) (storeP_push (by simp) ((hk _ _ rfl push_new (Fr.push _ _))))))))
theorem eid_Eid.box {h : Heap} {f0 : Bool} {f1 : Int} {f2 : Int} {f3 : ByteArray} {f4 : ByteArray} {K : Nat → Heap → Prop} (hk : ∀ b h', b = h.size → eid_Eid.at h' b f0 f1 f2 f3 f4 → Fr (fun _ => False) h h' → K b h') : NewP h (.cells #[.bool f0, .int .u64 f1, .int .u64 f2, .string f3, .string f4] T.eid_Eid) fun b h_0 => K b h_0 :=
  newP_of (hk _ _ rfl push_new (Fr.push _ _))
theorem eid_Eid.stA {h : Heap} {a : Addr} {f0 : Bool} {f1 : Int} {f2 : Int} {f3 : ByteArray} {f4 : ByteArray} {K : Heap → Prop} (hk : storeL a [.bool f0, .int .u64 f1, .int .u64 f2, .string f3, .string f4] 0 h K) : eid_Eid.ST h a f0 f1 f2 f3 f4 K := by
  simp only [storeL, oneCell] at hk
  rw [add_zero_addr] at hk
  exact hk
theorem eid_Eid.set {h : Heap} {b : Nat} {g0 : Bool} {g1 : Int} {g2 : Int} {g3 : ByteArray} {g4 : ByteArray} {f0 : Bool} {f1 : Int} {f2 : Int} {f3 : ByteArray} {f4 : ByteArray} {K : Heap → Prop} (a0 : eid_Eid.at h b g0 g1 g2 g3 g4) (hk : ∀ h', eid_Eid.at h' b f0 f1 f2 f3 f4 → h'.size = h.size → (∀ x, x ≠ b → h'[x]? = h[x]?) → K h') : eid_Eid.ST h ⟨b, 0, none⟩ f0 f1 f2 f3 f4 K := by
  refine storeP_blk a0 (by simp) fun h1 a1 s1 o1 => ?_
  refine storeP_blk a1 (by simp) fun h2 a2 s2 o2 => ?_
  refine storeP_blk a2 (by simp) fun h3 a3 s3 o3 => ?_
  refine storeP_blk a3 (by simp) fun h4 a4 s4 o4 => ?_
  refine storeP_blk a4 (by simp) fun h5 a5 s5 o5 => ?_
  exact hk h5 a5 (by omega) (fun x hx => by rw [o5 x hx, o4 x hx, o3 x hx, o2 x hx, o1 x hx])

def regs_Reg.at (h : Heap) (b : Nat) (f0 : Bool) (f1 : Int) (f2 : Int) (f3 : ByteArray) (f4 : ByteArray) (f5 : Int) (f6 : Int) : Prop := h[b]? = some (.cells #[.bool f0, .int .u64 f1, .int .u64 f2, .string f3, .string f4, .int .i64 f5, .int .i64 f6] T.regs_Reg (0, 0))
theorem regs_Reg.ld {h : Heap} {b : Nat} {f0 : Bool} {f1 : Int} {f2 : Int} {f3 : ByteArray} {f4 : ByteArray} {f5 : Int} {f6 : Int} {K : Bool → Int → Int → ByteArray → ByteArray → Int → Int → Prop} (hb : regs_Reg.at h b f0 f1 f2 f3 f4 f5 f6) (hk : K f0 f1 f2 f3 f4 f5 f6) : regs_Reg.LD h ⟨b, 0, none⟩ K :=
  ⟨_, cell_at hb rfl, _, cell_at hb rfl, _, cell_at hb rfl, _, cell_at hb rfl, _, cell_at hb rfl, _, cell_at hb rfl, _, cell_at hb rfl, hk⟩
theorem regs_Reg.ldA {h : Heap} {a : Addr} {f0 : Bool} {f1 : Int} {f2 : Int} {f3 : ByteArray} {f4 : ByteArray} {f5 : Int} {f6 : Int} {K : Bool → Int → Int → ByteArray → ByteArray → Int → Int → Prop} (hb : heldL a [.bool f0, .int .u64 f1, .int .u64 f2, .string f3, .string f4, .int .i64 f5, .int .i64 f6] 0 h) (hk : K f0 f1 f2 f3 f4 f5 f6) : regs_Reg.LD h a K := by
  obtain ⟨q0, q1, q2, q3, q4, q5, q6, _⟩ := hb
  rw [add_zero_addr] at q0
  exact ⟨_, q0, _, q1, _, q2, _, q3, _, q4, _, q5, _, q6, hk⟩
theorem regs_Reg.held {h : Heap} {b : Nat} {f0 : Bool} {f1 : Int} {f2 : Int} {f3 : ByteArray} {f4 : ByteArray} {f5 : Int} {f6 : Int} (hb : regs_Reg.at h b f0 f1 f2 f3 f4 f5 f6) : heldL ⟨b, 0, none⟩ [.bool f0, .int .u64 f1, .int .u64 f2, .string f3, .string f4, .int .i64 f5, .int .i64 f6] 0 h :=
  heldL_blk hb (fun j v hj => by rw [Nat.zero_add]; simpa using hj)
theorem regs_Reg.new {h : Heap} {f0 : Bool} {f1 : Int} {f2 : Int} {f3 : ByteArray} {f4 : ByteArray} {f5 : Int} {f6 : Int} {K : Nat → Heap → Prop} (hk : ∀ b h', b = h.size → regs_Reg.at h' b f0 f1 f2 f3 f4 f5 f6 → Fr (fun _ => False) h h' → K b h') : NewP h (.cells #[.bool false, .int .u64 0, .int .u64 0, .string (⟨#[]⟩ : ByteArray), .string (⟨#[]⟩ : ByteArray), .int .i64 0, .int .i64 0] T.regs_Reg) fun b h_0 => regs_Reg.ST h_0 ⟨b, 0, none⟩ f0 f1 f2 f3 f4 f5 f6 (K b) :=
  newP_of (storeP_push (by simp) (storeP_push (by simp) (storeP_push (by simp) (storeP_push (by simp) (storeP_push (by simp) (storeP_push (by simp) (storeP_push (by simp) ((hk _ _ rfl push_new (Fr.push _ _))))))))))
theorem regs_Reg.box {h : Heap} {f0 : Bool} {f1 : Int} {f2 : Int} {f3 : ByteArray} {f4 : ByteArray} {f5 : Int} {f6 : Int} {K : Nat → Heap → Prop} (hk : ∀ b h', b = h.size → regs_Reg.at h' b f0 f1 f2 f3 f4 f5 f6 → Fr (fun _ => False) h h' → K b h') : NewP h (.cells #[.bool f0, .int .u64 f1, .int .u64 f2, .string f3, .string f4, .int .i64 f5, .int .i64 f6] T.regs_Reg) fun b h_0 => K b h_0 :=
  newP_of (hk _ _ rfl push_new (Fr.push _ _))
theorem regs_Reg.stA {h : Heap} {a : Addr} {f0 : Bool} {f1 : Int} {f2 : Int} {f3 : ByteArray} {f4 : ByteArray} {f5 : Int} {f6 : Int} {K : Heap → Prop} (hk : storeL a [.bool f0, .int .u64 f1, .int .u64 f2, .string f3, .string f4, .int .i64 f5, .int .i64 f6] 0 h K) : regs_Reg.ST h a f0 f1 f2 f3 f4 f5 f6 K := by
  simp only [storeL, oneCell] at hk
  rw [add_zero_addr] at hk
  exact hk
theorem regs_Reg.set {h : Heap} {b : Nat} {g0 : Bool} {g1 : Int} {g2 : Int} {g3 : ByteArray} {g4 : ByteArray} {g5 : Int} {g6 : Int} {f0 : Bool} {f1 : Int} {f2 : Int} {f3 : ByteArray} {f4 : ByteArray} {f5 : Int} {f6 : Int} {K : Heap → Prop} (a0 : regs_Reg.at h b g0 g1 g2 g3 g4 g5 g6) (hk : ∀ h', regs_Reg.at h' b f0 f1 f2 f3 f4 f5 f6 → h'.size = h.size → (∀ x, x ≠ b → h'[x]? = h[x]?) → K h') : regs_Reg.ST h ⟨b, 0, none⟩ f0 f1 f2 f3 f4 f5 f6 K := by
  refine storeP_blk a0 (by simp) fun h1 a1 s1 o1 => ?_
  refine storeP_blk a1 (by simp) fun h2 a2 s2 o2 => ?_
  refine storeP_blk a2 (by simp) fun h3 a3 s3 o3 => ?_
  refine storeP_blk a3 (by simp) fun h4 a4 s4 o4 => ?_
  refine storeP_blk a4 (by simp) fun h5 a5 s5 o5 => ?_
  refine storeP_blk a5 (by simp) fun h6 a6 s6 o6 => ?_
  refine storeP_blk a6 (by simp) fun h7 a7 s7 o7 => ?_
  exact hk h7 a7 (by omega) (fun x hx => by rw [o7 x hx, o6 x hx, o5 x hx, o4 x hx, o3 x hx, o2 x hx, o1 x hx])

end Go.Proofs.Ytgccegnmggjkjaa
