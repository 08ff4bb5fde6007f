/-
  Printed by a program of this work (vc.py): the verification conditions of functions, and that each is enough for the call. No condition.
-/
import Derived.Test.YtgccegnmggjkjaaDoorNames
import Derived.Test.YtgccegnmggjkjaaDoorStep
set_option maxRecDepth 100000
set_option maxHeartbeats 4000000
namespace Go.Proofs.YtgccegnmggjkjaaDoor
open Go.Den
def eid_Eid.at (h : Heap) (b : Nat) (f0 : Bool) (f1 : Int) (f2 : Int) (f3 : ByteArray) (f4 : ByteArray) : Prop := h[b]? = some (.cells #[.bool f0, .int .u64 f1, .int .u64 f2, .string f3, .string f4] T.eid_Eid (0, 0))
theorem eid_Eid.ld {h : Heap} {b : Nat} {f0 : Bool} {f1 : Int} {f2 : Int} {f3 : ByteArray} {f4 : ByteArray} {K : Bool → Int → Int → ByteArray → ByteArray → Prop} (hb : eid_Eid.at h b f0 f1 f2 f3 f4) (hk : K f0 f1 f2 f3 f4) : eid_Eid.LD h ⟨b, 0, none⟩ K :=
  ⟨_, cell_at hb rfl, _, cell_at hb rfl, _, cell_at hb rfl, _, cell_at hb rfl, _, cell_at hb rfl, hk⟩
theorem eid_Eid.ldA {h : Heap} {a : Addr} {f0 : Bool} {f1 : Int} {f2 : Int} {f3 : ByteArray} {f4 : ByteArray} {K : Bool → Int → Int → ByteArray → ByteArray → Prop} (hb : heldL a [.bool f0, .int .u64 f1, .int .u64 f2, .string f3, .string f4] 0 h) (hk : K f0 f1 f2 f3 f4) : eid_Eid.LD h a K := by
  obtain ⟨q0, q1, q2, q3, q4, _⟩ := hb
  rw [add_zero_addr] at q0
  exact ⟨_, q0, _, q1, _, q2, _, q3, _, q4, hk⟩
theorem eid_Eid.held {h : Heap} {b : Nat} {f0 : Bool} {f1 : Int} {f2 : Int} {f3 : ByteArray} {f4 : ByteArray} (hb : eid_Eid.at h b f0 f1 f2 f3 f4) : heldL ⟨b, 0, none⟩ [.bool f0, .int .u64 f1, .int .u64 f2, .string f3, .string f4] 0 h :=
  heldL_blk hb (fun j v hj => by rw [Nat.zero_add]; simpa using hj)
theorem eid_Eid.stA {h : Heap} {a : Addr} {f0 : Bool} {f1 : Int} {f2 : Int} {f3 : ByteArray} {f4 : ByteArray} {K : Heap → Prop} (hk : storeL a [.bool f0, .int .u64 f1, .int .u64 f2, .string f3, .string f4] 0 h K) : eid_Eid.ST h a f0 f1 f2 f3 f4 K := hk
theorem eid_Eid.new {h : Heap} {f0 : Bool} {f1 : Int} {f2 : Int} {f3 : ByteArray} {f4 : ByteArray} {K : Nat → Heap → Prop} (hk : ∀ b h', b = h.size → eid_Eid.at h' b f0 f1 f2 f3 f4 → Fr (fun _ => False) h h' → K b h') : NewP h (.cells #[.bool false, .int .u64 0, .int .u64 0, .string (⟨#[]⟩ : ByteArray), .string (⟨#[]⟩ : ByteArray)] T.eid_Eid) fun b h_0 => eid_Eid.ST h_0 ⟨b, 0, none⟩ f0 f1 f2 f3 f4 (K b) :=
  new_full (vs := [.bool f0, .int .u64 f1, .int .u64 f2, .string f3, .string f4]) rfl rfl hk
theorem eid_Eid.box {h : Heap} {f0 : Bool} {f1 : Int} {f2 : Int} {f3 : ByteArray} {f4 : ByteArray} {K : Nat → Heap → Prop} (hk : ∀ b h', b = h.size → eid_Eid.at h' b f0 f1 f2 f3 f4 → Fr (fun _ => False) h h' → K b h') : NewP h (.cells #[.bool f0, .int .u64 f1, .int .u64 f2, .string f3, .string f4] T.eid_Eid) fun b h_0 => K b h_0 :=
  newP_of (hk _ _ rfl push_new (Fr.push _ _))
theorem eid_Eid.set {h : Heap} {b : Nat} {g0 : Bool} {g1 : Int} {g2 : Int} {g3 : ByteArray} {g4 : ByteArray} {f0 : Bool} {f1 : Int} {f2 : Int} {f3 : ByteArray} {f4 : ByteArray} {K : Heap → Prop} (a0 : eid_Eid.at h b g0 g1 g2 g3 g4) (hk : ∀ h', eid_Eid.at h' b f0 f1 f2 f3 f4 → h'.size = h.size → (∀ x, x ≠ b → h'[x]? = h[x]?) → K h') : eid_Eid.ST h ⟨b, 0, none⟩ f0 f1 f2 f3 f4 K :=
  eid_Eid.stA (storeL_full a0 rfl rfl hk)

def regs_Reg.at (h : Heap) (b : Nat) (f0 : Bool) (f1 : Int) (f2 : Int) (f3 : ByteArray) (f4 : ByteArray) (f5 : Int) (f6 : Int) : Prop := h[b]? = some (.cells #[.bool f0, .int .u64 f1, .int .u64 f2, .string f3, .string f4, .int .i64 f5, .int .i64 f6] T.regs_Reg (0, 0))
theorem regs_Reg.ld {h : Heap} {b : Nat} {f0 : Bool} {f1 : Int} {f2 : Int} {f3 : ByteArray} {f4 : ByteArray} {f5 : Int} {f6 : Int} {K : Bool → Int → Int → ByteArray → ByteArray → Int → Int → Prop} (hb : regs_Reg.at h b f0 f1 f2 f3 f4 f5 f6) (hk : K f0 f1 f2 f3 f4 f5 f6) : regs_Reg.LD h ⟨b, 0, none⟩ K :=
  ⟨_, cell_at hb rfl, _, cell_at hb rfl, _, cell_at hb rfl, _, cell_at hb rfl, _, cell_at hb rfl, _, cell_at hb rfl, _, cell_at hb rfl, hk⟩
theorem regs_Reg.ldA {h : Heap} {a : Addr} {f0 : Bool} {f1 : Int} {f2 : Int} {f3 : ByteArray} {f4 : ByteArray} {f5 : Int} {f6 : Int} {K : Bool → Int → Int → ByteArray → ByteArray → Int → Int → Prop} (hb : heldL a [.bool f0, .int .u64 f1, .int .u64 f2, .string f3, .string f4, .int .i64 f5, .int .i64 f6] 0 h) (hk : K f0 f1 f2 f3 f4 f5 f6) : regs_Reg.LD h a K := by
  obtain ⟨q0, q1, q2, q3, q4, q5, q6, _⟩ := hb
  rw [add_zero_addr] at q0
  exact ⟨_, q0, _, q1, _, q2, _, q3, _, q4, _, q5, _, q6, hk⟩
theorem regs_Reg.held {h : Heap} {b : Nat} {f0 : Bool} {f1 : Int} {f2 : Int} {f3 : ByteArray} {f4 : ByteArray} {f5 : Int} {f6 : Int} (hb : regs_Reg.at h b f0 f1 f2 f3 f4 f5 f6) : heldL ⟨b, 0, none⟩ [.bool f0, .int .u64 f1, .int .u64 f2, .string f3, .string f4, .int .i64 f5, .int .i64 f6] 0 h :=
  heldL_blk hb (fun j v hj => by rw [Nat.zero_add]; simpa using hj)
theorem regs_Reg.stA {h : Heap} {a : Addr} {f0 : Bool} {f1 : Int} {f2 : Int} {f3 : ByteArray} {f4 : ByteArray} {f5 : Int} {f6 : Int} {K : Heap → Prop} (hk : storeL a [.bool f0, .int .u64 f1, .int .u64 f2, .string f3, .string f4, .int .i64 f5, .int .i64 f6] 0 h K) : regs_Reg.ST h a f0 f1 f2 f3 f4 f5 f6 K := hk
theorem regs_Reg.new {h : Heap} {f0 : Bool} {f1 : Int} {f2 : Int} {f3 : ByteArray} {f4 : ByteArray} {f5 : Int} {f6 : Int} {K : Nat → Heap → Prop} (hk : ∀ b h', b = h.size → regs_Reg.at h' b f0 f1 f2 f3 f4 f5 f6 → Fr (fun _ => False) h h' → K b h') : NewP h (.cells #[.bool false, .int .u64 0, .int .u64 0, .string (⟨#[]⟩ : ByteArray), .string (⟨#[]⟩ : ByteArray), .int .i64 0, .int .i64 0] T.regs_Reg) fun b h_0 => regs_Reg.ST h_0 ⟨b, 0, none⟩ f0 f1 f2 f3 f4 f5 f6 (K b) :=
  new_full (vs := [.bool f0, .int .u64 f1, .int .u64 f2, .string f3, .string f4, .int .i64 f5, .int .i64 f6]) rfl rfl hk
theorem regs_Reg.box {h : Heap} {f0 : Bool} {f1 : Int} {f2 : Int} {f3 : ByteArray} {f4 : ByteArray} {f5 : Int} {f6 : Int} {K : Nat → Heap → Prop} (hk : ∀ b h', b = h.size → regs_Reg.at h' b f0 f1 f2 f3 f4 f5 f6 → Fr (fun _ => False) h h' → K b h') : NewP h (.cells #[.bool f0, .int .u64 f1, .int .u64 f2, .string f3, .string f4, .int .i64 f5, .int .i64 f6] T.regs_Reg) fun b h_0 => K b h_0 :=
  newP_of (hk _ _ rfl push_new (Fr.push _ _))
theorem regs_Reg.set {h : Heap} {b : Nat} {g0 : Bool} {g1 : Int} {g2 : Int} {g3 : ByteArray} {g4 : ByteArray} {g5 : Int} {g6 : Int} {f0 : Bool} {f1 : Int} {f2 : Int} {f3 : ByteArray} {f4 : ByteArray} {f5 : Int} {f6 : Int} {K : Heap → Prop} (a0 : regs_Reg.at h b g0 g1 g2 g3 g4 g5 g6) (hk : ∀ h', regs_Reg.at h' b f0 f1 f2 f3 f4 f5 f6 → h'.size = h.size → (∀ x, x ≠ b → h'[x]? = h[x]?) → K h') : regs_Reg.ST h ⟨b, 0, none⟩ f0 f1 f2 f3 f4 f5 f6 K :=
  regs_Reg.stA (storeL_full a0 rfl rfl hk)

def ref04_Eid.at (h : Heap) (b : Nat) (f0 : Bool) (f1 : Int) (f2 : Int) (f3 : ByteArray) (f4 : ByteArray) : Prop := h[b]? = some (.cells #[.bool f0, .int .u64 f1, .int .u64 f2, .string f3, .string f4] T.ref04_Eid (0, 0))
theorem ref04_Eid.ld {h : Heap} {b : Nat} {f0 : Bool} {f1 : Int} {f2 : Int} {f3 : ByteArray} {f4 : ByteArray} {K : Bool → Int → Int → ByteArray → ByteArray → Prop} (hb : ref04_Eid.at h b f0 f1 f2 f3 f4) (hk : K f0 f1 f2 f3 f4) : ref04_Eid.LD h ⟨b, 0, none⟩ K :=
  ⟨_, cell_at hb rfl, _, cell_at hb rfl, _, cell_at hb rfl, _, cell_at hb rfl, _, cell_at hb rfl, hk⟩
theorem ref04_Eid.ldA {h : Heap} {a : Addr} {f0 : Bool} {f1 : Int} {f2 : Int} {f3 : ByteArray} {f4 : ByteArray} {K : Bool → Int → Int → ByteArray → ByteArray → Prop} (hb : heldL a [.bool f0, .int .u64 f1, .int .u64 f2, .string f3, .string f4] 0 h) (hk : K f0 f1 f2 f3 f4) : ref04_Eid.LD h a K := by
  obtain ⟨q0, q1, q2, q3, q4, _⟩ := hb
  rw [add_zero_addr] at q0
  exact ⟨_, q0, _, q1, _, q2, _, q3, _, q4, hk⟩
theorem ref04_Eid.held {h : Heap} {b : Nat} {f0 : Bool} {f1 : Int} {f2 : Int} {f3 : ByteArray} {f4 : ByteArray} (hb : ref04_Eid.at h b f0 f1 f2 f3 f4) : heldL ⟨b, 0, none⟩ [.bool f0, .int .u64 f1, .int .u64 f2, .string f3, .string f4] 0 h :=
  heldL_blk hb (fun j v hj => by rw [Nat.zero_add]; simpa using hj)
theorem ref04_Eid.stA {h : Heap} {a : Addr} {f0 : Bool} {f1 : Int} {f2 : Int} {f3 : ByteArray} {f4 : ByteArray} {K : Heap → Prop} (hk : storeL a [.bool f0, .int .u64 f1, .int .u64 f2, .string f3, .string f4] 0 h K) : ref04_Eid.ST h a f0 f1 f2 f3 f4 K := hk
theorem ref04_Eid.new {h : Heap} {f0 : Bool} {f1 : Int} {f2 : Int} {f3 : ByteArray} {f4 : ByteArray} {K : Nat → Heap → Prop} (hk : ∀ b h', b = h.size → ref04_Eid.at h' b f0 f1 f2 f3 f4 → Fr (fun _ => False) h h' → K b h') : NewP h (.cells #[.bool false, .int .u64 0, .int .u64 0, .string (⟨#[]⟩ : ByteArray), .string (⟨#[]⟩ : ByteArray)] T.ref04_Eid) fun b h_0 => ref04_Eid.ST h_0 ⟨b, 0, none⟩ f0 f1 f2 f3 f4 (K b) :=
  new_full (vs := [.bool f0, .int .u64 f1, .int .u64 f2, .string f3, .string f4]) rfl rfl hk
theorem ref04_Eid.box {h : Heap} {f0 : Bool} {f1 : Int} {f2 : Int} {f3 : ByteArray} {f4 : ByteArray} {K : Nat → Heap → Prop} (hk : ∀ b h', b = h.size → ref04_Eid.at h' b f0 f1 f2 f3 f4 → Fr (fun _ => False) h h' → K b h') : NewP h (.cells #[.bool f0, .int .u64 f1, .int .u64 f2, .string f3, .string f4] T.ref04_Eid) fun b h_0 => K b h_0 :=
  newP_of (hk _ _ rfl push_new (Fr.push _ _))
theorem ref04_Eid.set {h : Heap} {b : Nat} {g0 : Bool} {g1 : Int} {g2 : Int} {g3 : ByteArray} {g4 : ByteArray} {f0 : Bool} {f1 : Int} {f2 : Int} {f3 : ByteArray} {f4 : ByteArray} {K : Heap → Prop} (a0 : ref04_Eid.at h b g0 g1 g2 g3 g4) (hk : ∀ h', ref04_Eid.at h' b f0 f1 f2 f3 f4 → h'.size = h.size → (∀ x, x ≠ b → h'[x]? = h[x]?) → K h') : ref04_Eid.ST h ⟨b, 0, none⟩ f0 f1 f2 f3 f4 K :=
  ref04_Eid.stA (storeL_full a0 rfl rfl hk)

def ref22_Reg.at (h : Heap) (b : Nat) (f0 : Bool) (f1 : Int) (f2 : Int) (f3 : ByteArray) (f4 : ByteArray) (f5 : Int) (f6 : Int) : Prop := h[b]? = some (.cells #[.bool f0, .int .u64 f1, .int .u64 f2, .string f3, .string f4, .int .i64 f5, .int .i64 f6] T.ref22_Reg (0, 0))
theorem ref22_Reg.ld {h : Heap} {b : Nat} {f0 : Bool} {f1 : Int} {f2 : Int} {f3 : ByteArray} {f4 : ByteArray} {f5 : Int} {f6 : Int} {K : Bool → Int → Int → ByteArray → ByteArray → Int → Int → Prop} (hb : ref22_Reg.at h b f0 f1 f2 f3 f4 f5 f6) (hk : K f0 f1 f2 f3 f4 f5 f6) : ref22_Reg.LD h ⟨b, 0, none⟩ K :=
  ⟨_, cell_at hb rfl, _, cell_at hb rfl, _, cell_at hb rfl, _, cell_at hb rfl, _, cell_at hb rfl, _, cell_at hb rfl, _, cell_at hb rfl, hk⟩
theorem ref22_Reg.ldA {h : Heap} {a : Addr} {f0 : Bool} {f1 : Int} {f2 : Int} {f3 : ByteArray} {f4 : ByteArray} {f5 : Int} {f6 : Int} {K : Bool → Int → Int → ByteArray → ByteArray → Int → Int → Prop} (hb : heldL a [.bool f0, .int .u64 f1, .int .u64 f2, .string f3, .string f4, .int .i64 f5, .int .i64 f6] 0 h) (hk : K f0 f1 f2 f3 f4 f5 f6) : ref22_Reg.LD h a K := by
  obtain ⟨q0, q1, q2, q3, q4, q5, q6, _⟩ := hb
  rw [add_zero_addr] at q0
  exact ⟨_, q0, _, q1, _, q2, _, q3, _, q4, _, q5, _, q6, hk⟩
theorem ref22_Reg.held {h : Heap} {b : Nat} {f0 : Bool} {f1 : Int} {f2 : Int} {f3 : ByteArray} {f4 : ByteArray} {f5 : Int} {f6 : Int} (hb : ref22_Reg.at h b f0 f1 f2 f3 f4 f5 f6) : heldL ⟨b, 0, none⟩ [.bool f0, .int .u64 f1, .int .u64 f2, .string f3, .string f4, .int .i64 f5, .int .i64 f6] 0 h :=
  heldL_blk hb (fun j v hj => by rw [Nat.zero_add]; simpa using hj)
theorem ref22_Reg.stA {h : Heap} {a : Addr} {f0 : Bool} {f1 : Int} {f2 : Int} {f3 : ByteArray} {f4 : ByteArray} {f5 : Int} {f6 : Int} {K : Heap → Prop} (hk : storeL a [.bool f0, .int .u64 f1, .int .u64 f2, .string f3, .string f4, .int .i64 f5, .int .i64 f6] 0 h K) : ref22_Reg.ST h a f0 f1 f2 f3 f4 f5 f6 K := hk
theorem ref22_Reg.new {h : Heap} {f0 : Bool} {f1 : Int} {f2 : Int} {f3 : ByteArray} {f4 : ByteArray} {f5 : Int} {f6 : Int} {K : Nat → Heap → Prop} (hk : ∀ b h', b = h.size → ref22_Reg.at h' b f0 f1 f2 f3 f4 f5 f6 → Fr (fun _ => False) h h' → K b h') : NewP h (.cells #[.bool false, .int .u64 0, .int .u64 0, .string (⟨#[]⟩ : ByteArray), .string (⟨#[]⟩ : ByteArray), .int .i64 0, .int .i64 0] T.ref22_Reg) fun b h_0 => ref22_Reg.ST h_0 ⟨b, 0, none⟩ f0 f1 f2 f3 f4 f5 f6 (K b) :=
  new_full (vs := [.bool f0, .int .u64 f1, .int .u64 f2, .string f3, .string f4, .int .i64 f5, .int .i64 f6]) rfl rfl hk
theorem ref22_Reg.box {h : Heap} {f0 : Bool} {f1 : Int} {f2 : Int} {f3 : ByteArray} {f4 : ByteArray} {f5 : Int} {f6 : Int} {K : Nat → Heap → Prop} (hk : ∀ b h', b = h.size → ref22_Reg.at h' b f0 f1 f2 f3 f4 f5 f6 → Fr (fun _ => False) h h' → K b h') : NewP h (.cells #[.bool f0, .int .u64 f1, .int .u64 f2, .string f3, .string f4, .int .i64 f5, .int .i64 f6] T.ref22_Reg) fun b h_0 => K b h_0 :=
  newP_of (hk _ _ rfl push_new (Fr.push _ _))
theorem ref22_Reg.set {h : Heap} {b : Nat} {g0 : Bool} {g1 : Int} {g2 : Int} {g3 : ByteArray} {g4 : ByteArray} {g5 : Int} {g6 : Int} {f0 : Bool} {f1 : Int} {f2 : Int} {f3 : ByteArray} {f4 : ByteArray} {f5 : Int} {f6 : Int} {K : Heap → Prop} (a0 : ref22_Reg.at h b g0 g1 g2 g3 g4 g5 g6) (hk : ∀ h', ref22_Reg.at h' b f0 f1 f2 f3 f4 f5 f6 → h'.size = h.size → (∀ x, x ≠ b → h'[x]? = h[x]?) → K h') : ref22_Reg.ST h ⟨b, 0, none⟩ f0 f1 f2 f3 f4 f5 f6 K :=
  ref22_Reg.stA (storeL_full a0 rfl rfl hk)

def law22_Op.at (h : Heap) (b : Nat) (f0 : Int) (f1 : Int) (f2 : Int) (f3 : Bool) (f4 : Int) (f5 : Int) (f6 : ByteArray) (f7 : ByteArray) : Prop := h[b]? = some (.cells #[.int .i64 f0, .int .i64 f1, .int .i64 f2, .bool f3, .int .u64 f4, .int .u64 f5, .string f6, .string f7] T.law22_Op (0, 0))
theorem law22_Op.ld {h : Heap} {b : Nat} {f0 : Int} {f1 : Int} {f2 : Int} {f3 : Bool} {f4 : Int} {f5 : Int} {f6 : ByteArray} {f7 : ByteArray} {K : Int → Int → Int → Bool → Int → Int → ByteArray → ByteArray → Prop} (hb : law22_Op.at h b f0 f1 f2 f3 f4 f5 f6 f7) (hk : K f0 f1 f2 f3 f4 f5 f6 f7) : law22_Op.LD h ⟨b, 0, none⟩ K :=
  ⟨_, cell_at hb rfl, _, cell_at hb rfl, _, cell_at hb rfl, _, cell_at hb rfl, _, cell_at hb rfl, _, cell_at hb rfl, _, cell_at hb rfl, _, cell_at hb rfl, hk⟩
theorem law22_Op.ldA {h : Heap} {a : Addr} {f0 : Int} {f1 : Int} {f2 : Int} {f3 : Bool} {f4 : Int} {f5 : Int} {f6 : ByteArray} {f7 : ByteArray} {K : Int → Int → Int → Bool → Int → Int → ByteArray → ByteArray → Prop} (hb : heldL a [.int .i64 f0, .int .i64 f1, .int .i64 f2, .bool f3, .int .u64 f4, .int .u64 f5, .string f6, .string f7] 0 h) (hk : K f0 f1 f2 f3 f4 f5 f6 f7) : law22_Op.LD h a K := by
  obtain ⟨q0, q1, q2, q3, q4, q5, q6, q7, _⟩ := hb
  rw [add_zero_addr] at q0
  exact ⟨_, q0, _, q1, _, q2, _, q3, _, q4, _, q5, _, q6, _, q7, hk⟩
theorem law22_Op.held {h : Heap} {b : Nat} {f0 : Int} {f1 : Int} {f2 : Int} {f3 : Bool} {f4 : Int} {f5 : Int} {f6 : ByteArray} {f7 : ByteArray} (hb : law22_Op.at h b f0 f1 f2 f3 f4 f5 f6 f7) : heldL ⟨b, 0, none⟩ [.int .i64 f0, .int .i64 f1, .int .i64 f2, .bool f3, .int .u64 f4, .int .u64 f5, .string f6, .string f7] 0 h :=
  heldL_blk hb (fun j v hj => by rw [Nat.zero_add]; simpa using hj)
theorem law22_Op.stA {h : Heap} {a : Addr} {f0 : Int} {f1 : Int} {f2 : Int} {f3 : Bool} {f4 : Int} {f5 : Int} {f6 : ByteArray} {f7 : ByteArray} {K : Heap → Prop} (hk : storeL a [.int .i64 f0, .int .i64 f1, .int .i64 f2, .bool f3, .int .u64 f4, .int .u64 f5, .string f6, .string f7] 0 h K) : law22_Op.ST h a f0 f1 f2 f3 f4 f5 f6 f7 K := hk
theorem law22_Op.new {h : Heap} {f0 : Int} {f1 : Int} {f2 : Int} {f3 : Bool} {f4 : Int} {f5 : Int} {f6 : ByteArray} {f7 : ByteArray} {K : Nat → Heap → Prop} (hk : ∀ b h', b = h.size → law22_Op.at h' b f0 f1 f2 f3 f4 f5 f6 f7 → Fr (fun _ => False) h h' → K b h') : NewP h (.cells #[.int .i64 0, .int .i64 0, .int .i64 0, .bool false, .int .u64 0, .int .u64 0, .string (⟨#[]⟩ : ByteArray), .string (⟨#[]⟩ : ByteArray)] T.law22_Op) fun b h_0 => law22_Op.ST h_0 ⟨b, 0, none⟩ f0 f1 f2 f3 f4 f5 f6 f7 (K b) :=
  new_full (vs := [.int .i64 f0, .int .i64 f1, .int .i64 f2, .bool f3, .int .u64 f4, .int .u64 f5, .string f6, .string f7]) rfl rfl hk
theorem law22_Op.box {h : Heap} {f0 : Int} {f1 : Int} {f2 : Int} {f3 : Bool} {f4 : Int} {f5 : Int} {f6 : ByteArray} {f7 : ByteArray} {K : Nat → Heap → Prop} (hk : ∀ b h', b = h.size → law22_Op.at h' b f0 f1 f2 f3 f4 f5 f6 f7 → Fr (fun _ => False) h h' → K b h') : NewP h (.cells #[.int .i64 f0, .int .i64 f1, .int .i64 f2, .bool f3, .int .u64 f4, .int .u64 f5, .string f6, .string f7] T.law22_Op) fun b h_0 => K b h_0 :=
  newP_of (hk _ _ rfl push_new (Fr.push _ _))
theorem law22_Op.set {h : Heap} {b : Nat} {g0 : Int} {g1 : Int} {g2 : Int} {g3 : Bool} {g4 : Int} {g5 : Int} {g6 : ByteArray} {g7 : ByteArray} {f0 : Int} {f1 : Int} {f2 : Int} {f3 : Bool} {f4 : Int} {f5 : Int} {f6 : ByteArray} {f7 : ByteArray} {K : Heap → Prop} (a0 : law22_Op.at h b g0 g1 g2 g3 g4 g5 g6 g7) (hk : ∀ h', law22_Op.at h' b f0 f1 f2 f3 f4 f5 f6 f7 → h'.size = h.size → (∀ x, x ≠ b → h'[x]? = h[x]?) → K h') : law22_Op.ST h ⟨b, 0, none⟩ f0 f1 f2 f3 f4 f5 f6 f7 K :=
  law22_Op.stA (storeL_full a0 rfl rfl hk)

end Go.Proofs.YtgccegnmggjkjaaDoor
