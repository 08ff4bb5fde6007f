/-
  Printed by a program of this work (vc.py): the verification conditions of functions, and that each is enough for the call. No condition.
-/
import Derived.Test.YtgccegnmggjkjaaNames
import Derived.Test.YtgccegnmggjkjaaStep
set_option maxRecDepth 100000
set_option maxHeartbeats 4000000
namespace Go.Proofs.Ytgccegnmggjkjaa
open Go.Den
def eid_Eid.at (h : Heap) (b : Nat) (f0 : Bool) (f1 : Int) (f2 : Int) (f3 : ByteArray) (f4 : ByteArray) : Prop := h[b]? = some (.cells #[.bool f0, .int .u64 f1, .int .u64 f2, .string f3, .string f4] T.eid_Eid (0, 0))
theorem eid_Eid.ld {h : Heap} {b : Nat} {f0 : Bool} {f1 : Int} {f2 : Int} {f3 : ByteArray} {f4 : ByteArray} {K : Bool → Int → Int → ByteArray → ByteArray → Prop} (hb : eid_Eid.at h b f0 f1 f2 f3 f4) (hk : K f0 f1 f2 f3 f4) : eid_Eid.LD h ⟨b, 0, none⟩ K :=
  ⟨_, cell_at hb rfl, _, cell_at hb rfl, _, cell_at hb rfl, _, cell_at hb rfl, _, cell_at hb rfl, hk⟩
theorem eid_Eid.ldA {h : Heap} {a : Addr} {f0 : Bool} {f1 : Int} {f2 : Int} {f3 : ByteArray} {f4 : ByteArray} {K : Bool → Int → Int → ByteArray → ByteArray → Prop} (hb : heldL a [.bool f0, .int .u64 f1, .int .u64 f2, .string f3, .string f4] 0 h) (hk : K f0 f1 f2 f3 f4) : eid_Eid.LD h a K := by
  obtain ⟨q0, q1, q2, q3, q4, _⟩ := hb
  rw [add_zero_addr] at q0
  exact ⟨_, q0, _, q1, _, q2, _, q3, _, q4, hk⟩
theorem eid_Eid.held {h : Heap} {b : Nat} {f0 : Bool} {f1 : Int} {f2 : Int} {f3 : ByteArray} {f4 : ByteArray} (hb : eid_Eid.at h b f0 f1 f2 f3 f4) : heldL ⟨b, 0, none⟩ [.bool f0, .int .u64 f1, .int .u64 f2, .string f3, .string f4] 0 h :=
  heldL_blk hb (fun j v hj => by rw [Nat.zero_add]; simpa using hj)
theorem eid_Eid.stA {h : Heap} {a : Addr} {f0 : Bool} {f1 : Int} {f2 : Int} {f3 : ByteArray} {f4 : ByteArray} {K : Heap → Prop} (hk : storeL a [.bool f0, .int .u64 f1, .int .u64 f2, .string f3, .string f4] 0 h K) : eid_Eid.ST h a f0 f1 f2 f3 f4 K := hk
theorem eid_Eid.new {h : Heap} {f0 : Bool} {f1 : Int} {f2 : Int} {f3 : ByteArray} {f4 : ByteArray} {K : Nat → Heap → Prop} (hk : ∀ b h', b = h.size → eid_Eid.at h' b f0 f1 f2 f3 f4 → Fr (fun _ => False) h h' → K b h') : NewP h (.cells #[.bool false, .int .u64 0, .int .u64 0, .string (⟨#[]⟩ : ByteArray), .string (⟨#[]⟩ : ByteArray)] T.eid_Eid) fun b h_0 => eid_Eid.ST h_0 ⟨b, 0, none⟩ f0 f1 f2 f3 f4 (K b) :=
  new_full (vs := [.bool f0, .int .u64 f1, .int .u64 f2, .string f3, .string f4]) rfl rfl hk
theorem eid_Eid.box {h : Heap} {f0 : Bool} {f1 : Int} {f2 : Int} {f3 : ByteArray} {f4 : ByteArray} {K : Nat → Heap → Prop} (hk : ∀ b h', b = h.size → eid_Eid.at h' b f0 f1 f2 f3 f4 → Fr (fun _ => False) h h' → K b h') : NewP h (.cells #[.bool f0, .int .u64 f1, .int .u64 f2, .string f3, .string f4] T.eid_Eid) fun b h_0 => K b h_0 :=
  newP_of (hk _ _ rfl push_new (Fr.push _ _))
theorem eid_Eid.set {h : Heap} {b : Nat} {g0 : Bool} {g1 : Int} {g2 : Int} {g3 : ByteArray} {g4 : ByteArray} {f0 : Bool} {f1 : Int} {f2 : Int} {f3 : ByteArray} {f4 : ByteArray} {K : Heap → Prop} (a0 : eid_Eid.at h b g0 g1 g2 g3 g4) (hk : ∀ h', eid_Eid.at h' b f0 f1 f2 f3 f4 → h'.size = h.size → (∀ x, x ≠ b → h'[x]? = h[x]?) → K h') : eid_Eid.ST h ⟨b, 0, none⟩ f0 f1 f2 f3 f4 K :=
  eid_Eid.stA (storeL_full a0 rfl rfl hk)

def regs_Reg.at (h : Heap) (b : Nat) (f0 : Bool) (f1 : Int) (f2 : Int) (f3 : ByteArray) (f4 : ByteArray) (f5 : Int) (f6 : Int) : Prop := h[b]? = some (.cells #[.bool f0, .int .u64 f1, .int .u64 f2, .string f3, .string f4, .int .i64 f5, .int .i64 f6] T.regs_Reg (0, 0))
theorem regs_Reg.ld {h : Heap} {b : Nat} {f0 : Bool} {f1 : Int} {f2 : Int} {f3 : ByteArray} {f4 : ByteArray} {f5 : Int} {f6 : Int} {K : Bool → Int → Int → ByteArray → ByteArray → Int → Int → Prop} (hb : regs_Reg.at h b f0 f1 f2 f3 f4 f5 f6) (hk : K f0 f1 f2 f3 f4 f5 f6) : regs_Reg.LD h ⟨b, 0, none⟩ K :=
  ⟨_, cell_at hb rfl, _, cell_at hb rfl, _, cell_at hb rfl, _, cell_at hb rfl, _, cell_at hb rfl, _, cell_at hb rfl, _, cell_at hb rfl, hk⟩
theorem regs_Reg.ldA {h : Heap} {a : Addr} {f0 : Bool} {f1 : Int} {f2 : Int} {f3 : ByteArray} {f4 : ByteArray} {f5 : Int} {f6 : Int} {K : Bool → Int → Int → ByteArray → ByteArray → Int → Int → Prop} (hb : heldL a [.bool f0, .int .u64 f1, .int .u64 f2, .string f3, .string f4, .int .i64 f5, .int .i64 f6] 0 h) (hk : K f0 f1 f2 f3 f4 f5 f6) : regs_Reg.LD h a K := by
  obtain ⟨q0, q1, q2, q3, q4, q5, q6, _⟩ := hb
  rw [add_zero_addr] at q0
  exact ⟨_, q0, _, q1, _, q2, _, q3, _, q4, _, q5, _, q6, hk⟩
theorem regs_Reg.held {h : Heap} {b : Nat} {f0 : Bool} {f1 : Int} {f2 : Int} {f3 : ByteArray} {f4 : ByteArray} {f5 : Int} {f6 : Int} (hb : regs_Reg.at h b f0 f1 f2 f3 f4 f5 f6) : heldL ⟨b, 0, none⟩ [.bool f0, .int .u64 f1, .int .u64 f2, .string f3, .string f4, .int .i64 f5, .int .i64 f6] 0 h :=
  heldL_blk hb (fun j v hj => by rw [Nat.zero_add]; simpa using hj)
theorem regs_Reg.stA {h : Heap} {a : Addr} {f0 : Bool} {f1 : Int} {f2 : Int} {f3 : ByteArray} {f4 : ByteArray} {f5 : Int} {f6 : Int} {K : Heap → Prop} (hk : storeL a [.bool f0, .int .u64 f1, .int .u64 f2, .string f3, .string f4, .int .i64 f5, .int .i64 f6] 0 h K) : regs_Reg.ST h a f0 f1 f2 f3 f4 f5 f6 K := hk
theorem regs_Reg.new {h : Heap} {f0 : Bool} {f1 : Int} {f2 : Int} {f3 : ByteArray} {f4 : ByteArray} {f5 : Int} {f6 : Int} {K : Nat → Heap → Prop} (hk : ∀ b h', b = h.size → regs_Reg.at h' b f0 f1 f2 f3 f4 f5 f6 → Fr (fun _ => False) h h' → K b h') : NewP h (.cells #[.bool false, .int .u64 0, .int .u64 0, .string (⟨#[]⟩ : ByteArray), .string (⟨#[]⟩ : ByteArray), .int .i64 0, .int .i64 0] T.regs_Reg) fun b h_0 => regs_Reg.ST h_0 ⟨b, 0, none⟩ f0 f1 f2 f3 f4 f5 f6 (K b) :=
  new_full (vs := [.bool f0, .int .u64 f1, .int .u64 f2, .string f3, .string f4, .int .i64 f5, .int .i64 f6]) rfl rfl hk
theorem regs_Reg.box {h : Heap} {f0 : Bool} {f1 : Int} {f2 : Int} {f3 : ByteArray} {f4 : ByteArray} {f5 : Int} {f6 : Int} {K : Nat → Heap → Prop} (hk : ∀ b h', b = h.size → regs_Reg.at h' b f0 f1 f2 f3 f4 f5 f6 → Fr (fun _ => False) h h' → K b h') : NewP h (.cells #[.bool f0, .int .u64 f1, .int .u64 f2, .string f3, .string f4, .int .i64 f5, .int .i64 f6] T.regs_Reg) fun b h_0 => K b h_0 :=
  newP_of (hk _ _ rfl push_new (Fr.push _ _))
theorem regs_Reg.set {h : Heap} {b : Nat} {g0 : Bool} {g1 : Int} {g2 : Int} {g3 : ByteArray} {g4 : ByteArray} {g5 : Int} {g6 : Int} {f0 : Bool} {f1 : Int} {f2 : Int} {f3 : ByteArray} {f4 : ByteArray} {f5 : Int} {f6 : Int} {K : Heap → Prop} (a0 : regs_Reg.at h b g0 g1 g2 g3 g4 g5 g6) (hk : ∀ h', regs_Reg.at h' b f0 f1 f2 f3 f4 f5 f6 → h'.size = h.size → (∀ x, x ≠ b → h'[x]? = h[x]?) → K h') : regs_Reg.ST h ⟨b, 0, none⟩ f0 f1 f2 f3 f4 f5 f6 K :=
  regs_Reg.stA (storeL_full a0 rfl rfl hk)

def copies_Copy.at (h : Heap) (b : Nat) (f0 : Int) (f1 : Bool) (f2 : Int) (f3 : Int) (f4 : ByteArray) (f5 : ByteArray) (f6p : Option Addr) (f6l f6c : Nat) (f7 : Int) (f8 : Int) (f9 : Int) : Prop := h[b]? = some (.cells #[.int .i64 f0, .bool f1, .int .u64 f2, .int .u64 f3, .string f4, .string f5, .slice f6p f6l f6c, .int .u64 f7, .int .i64 f8, .int .u64 f9] T.copies_Copy (0, 0))
theorem copies_Copy.ld {h : Heap} {b : Nat} {f0 : Int} {f1 : Bool} {f2 : Int} {f3 : Int} {f4 : ByteArray} {f5 : ByteArray} {f6p : Option Addr} {f6l f6c : Nat} {f7 : Int} {f8 : Int} {f9 : Int} {K : Int → Bool → Int → Int → ByteArray → ByteArray → Option Addr → Nat → Nat → Int → Int → Int → Prop} (hb : copies_Copy.at h b f0 f1 f2 f3 f4 f5 f6p f6l f6c f7 f8 f9) (hk : K f0 f1 f2 f3 f4 f5 f6p f6l f6c f7 f8 f9) : copies_Copy.LD h ⟨b, 0, none⟩ K :=
  ⟨_, cell_at hb rfl, _, cell_at hb rfl, _, cell_at hb rfl, _, cell_at hb rfl, _, cell_at hb rfl, _, cell_at hb rfl, _, _, _, cell_at hb rfl, _, cell_at hb rfl, _, cell_at hb rfl, _, cell_at hb rfl, hk⟩
theorem copies_Copy.ldA {h : Heap} {a : Addr} {f0 : Int} {f1 : Bool} {f2 : Int} {f3 : Int} {f4 : ByteArray} {f5 : ByteArray} {f6p : Option Addr} {f6l f6c : Nat} {f7 : Int} {f8 : Int} {f9 : Int} {K : Int → Bool → Int → Int → ByteArray → ByteArray → Option Addr → Nat → Nat → Int → Int → Int → Prop} (hb : heldL a [.int .i64 f0, .bool f1, .int .u64 f2, .int .u64 f3, .string f4, .string f5, .slice f6p f6l f6c, .int .u64 f7, .int .i64 f8, .int .u64 f9] 0 h) (hk : K f0 f1 f2 f3 f4 f5 f6p f6l f6c f7 f8 f9) : copies_Copy.LD h a K := by
  obtain ⟨q0, q1, q2, q3, q4, q5, q6, q7, q8, q9, _⟩ := hb
  rw [add_zero_addr] at q0
  exact ⟨_, q0, _, q1, _, q2, _, q3, _, q4, _, q5, _, _, _, q6, _, q7, _, q8, _, q9, hk⟩
theorem copies_Copy.held {h : Heap} {b : Nat} {f0 : Int} {f1 : Bool} {f2 : Int} {f3 : Int} {f4 : ByteArray} {f5 : ByteArray} {f6p : Option Addr} {f6l f6c : Nat} {f7 : Int} {f8 : Int} {f9 : Int} (hb : copies_Copy.at h b f0 f1 f2 f3 f4 f5 f6p f6l f6c f7 f8 f9) : heldL ⟨b, 0, none⟩ [.int .i64 f0, .bool f1, .int .u64 f2, .int .u64 f3, .string f4, .string f5, .slice f6p f6l f6c, .int .u64 f7, .int .i64 f8, .int .u64 f9] 0 h :=
  heldL_blk hb (fun j v hj => by rw [Nat.zero_add]; simpa using hj)
theorem copies_Copy.stA {h : Heap} {a : Addr} {f0 : Int} {f1 : Bool} {f2 : Int} {f3 : Int} {f4 : ByteArray} {f5 : ByteArray} {f6p : Option Addr} {f6l f6c : Nat} {f7 : Int} {f8 : Int} {f9 : Int} {K : Heap → Prop} (hk : storeL a [.int .i64 f0, .bool f1, .int .u64 f2, .int .u64 f3, .string f4, .string f5, .slice f6p f6l f6c, .int .u64 f7, .int .i64 f8, .int .u64 f9] 0 h K) : copies_Copy.ST h a f0 f1 f2 f3 f4 f5 f6p f6l f6c f7 f8 f9 K := hk
theorem copies_Copy.new {h : Heap} {f0 : Int} {f1 : Bool} {f2 : Int} {f3 : Int} {f4 : ByteArray} {f5 : ByteArray} {f6p : Option Addr} {f6l f6c : Nat} {f7 : Int} {f8 : Int} {f9 : Int} {K : Nat → Heap → Prop} (hk : ∀ b h', b = h.size → copies_Copy.at h' b f0 f1 f2 f3 f4 f5 f6p f6l f6c f7 f8 f9 → Fr (fun _ => False) h h' → K b h') : NewP h (.cells #[.int .i64 0, .bool false, .int .u64 0, .int .u64 0, .string (⟨#[]⟩ : ByteArray), .string (⟨#[]⟩ : ByteArray), .slice none 0 0, .int .u64 0, .int .i64 0, .int .u64 0] T.copies_Copy) fun b h_0 => copies_Copy.ST h_0 ⟨b, 0, none⟩ f0 f1 f2 f3 f4 f5 f6p f6l f6c f7 f8 f9 (K b) :=
  new_full (vs := [.int .i64 f0, .bool f1, .int .u64 f2, .int .u64 f3, .string f4, .string f5, .slice f6p f6l f6c, .int .u64 f7, .int .i64 f8, .int .u64 f9]) rfl rfl hk
theorem copies_Copy.box {h : Heap} {f0 : Int} {f1 : Bool} {f2 : Int} {f3 : Int} {f4 : ByteArray} {f5 : ByteArray} {f6p : Option Addr} {f6l f6c : Nat} {f7 : Int} {f8 : Int} {f9 : Int} {K : Nat → Heap → Prop} (hk : ∀ b h', b = h.size → copies_Copy.at h' b f0 f1 f2 f3 f4 f5 f6p f6l f6c f7 f8 f9 → Fr (fun _ => False) h h' → K b h') : NewP h (.cells #[.int .i64 f0, .bool f1, .int .u64 f2, .int .u64 f3, .string f4, .string f5, .slice f6p f6l f6c, .int .u64 f7, .int .i64 f8, .int .u64 f9] T.copies_Copy) fun b h_0 => K b h_0 :=
  newP_of (hk _ _ rfl push_new (Fr.push _ _))
theorem copies_Copy.set {h : Heap} {b : Nat} {g0 : Int} {g1 : Bool} {g2 : Int} {g3 : Int} {g4 : ByteArray} {g5 : ByteArray} {g6p : Option Addr} {g6l g6c : Nat} {g7 : Int} {g8 : Int} {g9 : Int} {f0 : Int} {f1 : Bool} {f2 : Int} {f3 : Int} {f4 : ByteArray} {f5 : ByteArray} {f6p : Option Addr} {f6l f6c : Nat} {f7 : Int} {f8 : Int} {f9 : Int} {K : Heap → Prop} (a0 : copies_Copy.at h b g0 g1 g2 g3 g4 g5 g6p g6l g6c g7 g8 g9) (hk : ∀ h', copies_Copy.at h' b f0 f1 f2 f3 f4 f5 f6p f6l f6c f7 f8 f9 → h'.size = h.size → (∀ x, x ≠ b → h'[x]? = h[x]?) → K h') : copies_Copy.ST h ⟨b, 0, none⟩ f0 f1 f2 f3 f4 f5 f6p f6l f6c f7 f8 f9 K :=
  copies_Copy.stA (storeL_full a0 rfl rfl hk)

def a6_int.at (h : Heap) (b : Nat) (f0 : Int) (f1 : Int) (f2 : Int) (f3 : Int) (f4 : Int) (f5 : Int) : Prop := h[b]? = some (.cells #[.int .i64 f0, .int .i64 f1, .int .i64 f2, .int .i64 f3, .int .i64 f4, .int .i64 f5] T.a6_int (0, 0))
theorem a6_int.ld {h : Heap} {b : Nat} {f0 : Int} {f1 : Int} {f2 : Int} {f3 : Int} {f4 : Int} {f5 : Int} {K : Int → Int → Int → Int → Int → Int → Prop} (hb : a6_int.at h b f0 f1 f2 f3 f4 f5) (hk : K f0 f1 f2 f3 f4 f5) : a6_int.LD h ⟨b, 0, none⟩ K :=
  ⟨_, cell_at hb rfl, _, cell_at hb rfl, _, cell_at hb rfl, _, cell_at hb rfl, _, cell_at hb rfl, _, cell_at hb rfl, hk⟩
theorem a6_int.ldA {h : Heap} {a : Addr} {f0 : Int} {f1 : Int} {f2 : Int} {f3 : Int} {f4 : Int} {f5 : Int} {K : Int → Int → Int → Int → Int → Int → Prop} (hb : heldL a [.int .i64 f0, .int .i64 f1, .int .i64 f2, .int .i64 f3, .int .i64 f4, .int .i64 f5] 0 h) (hk : K f0 f1 f2 f3 f4 f5) : a6_int.LD h a K := by
  obtain ⟨q0, q1, q2, q3, q4, q5, _⟩ := hb
  rw [add_zero_addr] at q0
  exact ⟨_, q0, _, q1, _, q2, _, q3, _, q4, _, q5, hk⟩
theorem a6_int.held {h : Heap} {b : Nat} {f0 : Int} {f1 : Int} {f2 : Int} {f3 : Int} {f4 : Int} {f5 : Int} (hb : a6_int.at h b f0 f1 f2 f3 f4 f5) : heldL ⟨b, 0, none⟩ [.int .i64 f0, .int .i64 f1, .int .i64 f2, .int .i64 f3, .int .i64 f4, .int .i64 f5] 0 h :=
  heldL_blk hb (fun j v hj => by rw [Nat.zero_add]; simpa using hj)
theorem a6_int.stA {h : Heap} {a : Addr} {f0 : Int} {f1 : Int} {f2 : Int} {f3 : Int} {f4 : Int} {f5 : Int} {K : Heap → Prop} (hk : storeL a [.int .i64 f0, .int .i64 f1, .int .i64 f2, .int .i64 f3, .int .i64 f4, .int .i64 f5] 0 h K) : a6_int.ST h a f0 f1 f2 f3 f4 f5 K := hk
theorem a6_int.new {h : Heap} {f0 : Int} {f1 : Int} {f2 : Int} {f3 : Int} {f4 : Int} {f5 : Int} {K : Nat → Heap → Prop} (hk : ∀ b h', b = h.size → a6_int.at h' b f0 f1 f2 f3 f4 f5 → Fr (fun _ => False) h h' → K b h') : NewP h (.cells #[.int .i64 0, .int .i64 0, .int .i64 0, .int .i64 0, .int .i64 0, .int .i64 0] T.a6_int) fun b h_0 => a6_int.ST h_0 ⟨b, 0, none⟩ f0 f1 f2 f3 f4 f5 (K b) :=
  new_full (vs := [.int .i64 f0, .int .i64 f1, .int .i64 f2, .int .i64 f3, .int .i64 f4, .int .i64 f5]) rfl rfl hk
theorem a6_int.box {h : Heap} {f0 : Int} {f1 : Int} {f2 : Int} {f3 : Int} {f4 : Int} {f5 : Int} {K : Nat → Heap → Prop} (hk : ∀ b h', b = h.size → a6_int.at h' b f0 f1 f2 f3 f4 f5 → Fr (fun _ => False) h h' → K b h') : NewP h (.cells #[.int .i64 f0, .int .i64 f1, .int .i64 f2, .int .i64 f3, .int .i64 f4, .int .i64 f5] T.a6_int) fun b h_0 => K b h_0 :=
  newP_of (hk _ _ rfl push_new (Fr.push _ _))
theorem a6_int.set {h : Heap} {b : Nat} {g0 : Int} {g1 : Int} {g2 : Int} {g3 : Int} {g4 : Int} {g5 : Int} {f0 : Int} {f1 : Int} {f2 : Int} {f3 : Int} {f4 : Int} {f5 : Int} {K : Heap → Prop} (a0 : a6_int.at h b g0 g1 g2 g3 g4 g5) (hk : ∀ h', a6_int.at h' b f0 f1 f2 f3 f4 f5 → h'.size = h.size → (∀ x, x ≠ b → h'[x]? = h[x]?) → K h') : a6_int.ST h ⟨b, 0, none⟩ f0 f1 f2 f3 f4 f5 K :=
  a6_int.stA (storeL_full a0 rfl rfl hk)

def law21_Op.at (h : Heap) (b : Nat) (f0 : Int) (f1 : Int) (f2 : Int) (f3 : Bool) (f4 : Int) (f5 : Int) (f6 : ByteArray) (f7 : ByteArray) (f8p : Option Addr) (f8l f8c : Nat) (f9 : Int) : Prop := h[b]? = some (.cells #[.int .i64 f0, .int .i64 f1, .int .i64 f2, .bool f3, .int .u64 f4, .int .u64 f5, .string f6, .string f7, .slice f8p f8l f8c, .int .u64 f9] T.law21_Op (0, 0))
theorem law21_Op.ld {h : Heap} {b : Nat} {f0 : Int} {f1 : Int} {f2 : Int} {f3 : Bool} {f4 : Int} {f5 : Int} {f6 : ByteArray} {f7 : ByteArray} {f8p : Option Addr} {f8l f8c : Nat} {f9 : Int} {K : Int → Int → Int → Bool → Int → Int → ByteArray → ByteArray → Option Addr → Nat → Nat → Int → Prop} (hb : law21_Op.at h b f0 f1 f2 f3 f4 f5 f6 f7 f8p f8l f8c f9) (hk : K f0 f1 f2 f3 f4 f5 f6 f7 f8p f8l f8c f9) : law21_Op.LD h ⟨b, 0, none⟩ K :=
  ⟨_, cell_at hb rfl, _, cell_at hb rfl, _, cell_at hb rfl, _, cell_at hb rfl, _, cell_at hb rfl, _, cell_at hb rfl, _, cell_at hb rfl, _, cell_at hb rfl, _, _, _, cell_at hb rfl, _, cell_at hb rfl, hk⟩
theorem law21_Op.ldA {h : Heap} {a : Addr} {f0 : Int} {f1 : Int} {f2 : Int} {f3 : Bool} {f4 : Int} {f5 : Int} {f6 : ByteArray} {f7 : ByteArray} {f8p : Option Addr} {f8l f8c : Nat} {f9 : Int} {K : Int → Int → Int → Bool → Int → Int → ByteArray → ByteArray → Option Addr → Nat → Nat → Int → Prop} (hb : heldL a [.int .i64 f0, .int .i64 f1, .int .i64 f2, .bool f3, .int .u64 f4, .int .u64 f5, .string f6, .string f7, .slice f8p f8l f8c, .int .u64 f9] 0 h) (hk : K f0 f1 f2 f3 f4 f5 f6 f7 f8p f8l f8c f9) : law21_Op.LD h a K := by
  obtain ⟨q0, q1, q2, q3, q4, q5, q6, q7, q8, q9, _⟩ := hb
  rw [add_zero_addr] at q0
  exact ⟨_, q0, _, q1, _, q2, _, q3, _, q4, _, q5, _, q6, _, q7, _, _, _, q8, _, q9, hk⟩
theorem law21_Op.held {h : Heap} {b : Nat} {f0 : Int} {f1 : Int} {f2 : Int} {f3 : Bool} {f4 : Int} {f5 : Int} {f6 : ByteArray} {f7 : ByteArray} {f8p : Option Addr} {f8l f8c : Nat} {f9 : Int} (hb : law21_Op.at h b f0 f1 f2 f3 f4 f5 f6 f7 f8p f8l f8c f9) : heldL ⟨b, 0, none⟩ [.int .i64 f0, .int .i64 f1, .int .i64 f2, .bool f3, .int .u64 f4, .int .u64 f5, .string f6, .string f7, .slice f8p f8l f8c, .int .u64 f9] 0 h :=
  heldL_blk hb (fun j v hj => by rw [Nat.zero_add]; simpa using hj)
theorem law21_Op.stA {h : Heap} {a : Addr} {f0 : Int} {f1 : Int} {f2 : Int} {f3 : Bool} {f4 : Int} {f5 : Int} {f6 : ByteArray} {f7 : ByteArray} {f8p : Option Addr} {f8l f8c : Nat} {f9 : Int} {K : Heap → Prop} (hk : storeL a [.int .i64 f0, .int .i64 f1, .int .i64 f2, .bool f3, .int .u64 f4, .int .u64 f5, .string f6, .string f7, .slice f8p f8l f8c, .int .u64 f9] 0 h K) : law21_Op.ST h a f0 f1 f2 f3 f4 f5 f6 f7 f8p f8l f8c f9 K := hk
theorem law21_Op.new {h : Heap} {f0 : Int} {f1 : Int} {f2 : Int} {f3 : Bool} {f4 : Int} {f5 : Int} {f6 : ByteArray} {f7 : ByteArray} {f8p : Option Addr} {f8l f8c : Nat} {f9 : Int} {K : Nat → Heap → Prop} (hk : ∀ b h', b = h.size → law21_Op.at h' b f0 f1 f2 f3 f4 f5 f6 f7 f8p f8l f8c f9 → Fr (fun _ => False) h h' → K b h') : NewP h (.cells #[.int .i64 0, .int .i64 0, .int .i64 0, .bool false, .int .u64 0, .int .u64 0, .string (⟨#[]⟩ : ByteArray), .string (⟨#[]⟩ : ByteArray), .slice none 0 0, .int .u64 0] T.law21_Op) fun b h_0 => law21_Op.ST h_0 ⟨b, 0, none⟩ f0 f1 f2 f3 f4 f5 f6 f7 f8p f8l f8c f9 (K b) :=
  new_full (vs := [.int .i64 f0, .int .i64 f1, .int .i64 f2, .bool f3, .int .u64 f4, .int .u64 f5, .string f6, .string f7, .slice f8p f8l f8c, .int .u64 f9]) rfl rfl hk
theorem law21_Op.box {h : Heap} {f0 : Int} {f1 : Int} {f2 : Int} {f3 : Bool} {f4 : Int} {f5 : Int} {f6 : ByteArray} {f7 : ByteArray} {f8p : Option Addr} {f8l f8c : Nat} {f9 : Int} {K : Nat → Heap → Prop} (hk : ∀ b h', b = h.size → law21_Op.at h' b f0 f1 f2 f3 f4 f5 f6 f7 f8p f8l f8c f9 → Fr (fun _ => False) h h' → K b h') : NewP h (.cells #[.int .i64 f0, .int .i64 f1, .int .i64 f2, .bool f3, .int .u64 f4, .int .u64 f5, .string f6, .string f7, .slice f8p f8l f8c, .int .u64 f9] T.law21_Op) fun b h_0 => K b h_0 :=
  newP_of (hk _ _ rfl push_new (Fr.push _ _))
theorem law21_Op.set {h : Heap} {b : Nat} {g0 : Int} {g1 : Int} {g2 : Int} {g3 : Bool} {g4 : Int} {g5 : Int} {g6 : ByteArray} {g7 : ByteArray} {g8p : Option Addr} {g8l g8c : Nat} {g9 : Int} {f0 : Int} {f1 : Int} {f2 : Int} {f3 : Bool} {f4 : Int} {f5 : Int} {f6 : ByteArray} {f7 : ByteArray} {f8p : Option Addr} {f8l f8c : Nat} {f9 : Int} {K : Heap → Prop} (a0 : law21_Op.at h b g0 g1 g2 g3 g4 g5 g6 g7 g8p g8l g8c g9) (hk : ∀ h', law21_Op.at h' b f0 f1 f2 f3 f4 f5 f6 f7 f8p f8l f8c f9 → h'.size = h.size → (∀ x, x ≠ b → h'[x]? = h[x]?) → K h') : law21_Op.ST h ⟨b, 0, none⟩ f0 f1 f2 f3 f4 f5 f6 f7 f8p f8l f8c f9 K :=
  law21_Op.stA (storeL_full a0 rfl rfl hk)

end Go.Proofs.Ytgccegnmggjkjaa
