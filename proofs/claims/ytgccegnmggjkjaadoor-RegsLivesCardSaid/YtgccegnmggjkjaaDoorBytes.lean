/-
  What is proved here: bytes in memory, bytes as strings, bits of numbers. No program in sight, but for the model's own operations. No condition.
-/
import Derived.Test.YtgccegnmggjkjaaDoorRok
namespace Go.Den

/-- bytes as cells -/
def bc (bs : List UInt8) : List Value := bs.map fun b => .int .u8 (b.toNat : Int)
theorem bc_len (bs : List UInt8) : (bc bs).length = bs.length := by simp [bc]
theorem bc_append (bs cs : List UInt8) : bc (bs ++ cs) = bc bs ++ bc cs := by simp [bc]
theorem bc_take (bs : List UInt8) (n : Nat) : (bc bs).take n = bc (bs.take n) := by simp [bc, List.map_take]
theorem bc_drop (bs : List UInt8) (n : Nat) : (bc bs).drop n = bc (bs.drop n) := by simp [bc, List.map_drop]
theorem bc_one (bs : List UInt8) : ∀ v ∈ bc bs, oneCell v = true := by
  intro v hv
  simp only [bc, List.mem_map] at hv
  obtain ⟨b, _, rfl⟩ := hv
  rfl
theorem bc_at {bs : List UInt8} {i : Nat} {b : UInt8} (h : bs[i]? = some b) : (bc bs)[i]? = some (.int .u8 (b.toNat : Int)) := by simp [bc, h]

/-- bytes as a string -/
def str (bs : List UInt8) : ByteArray := ⟨bs.toArray⟩
theorem toList_loop (b : ByteArray) : ∀ (k i : Nat) (r : List UInt8), b.size - i = k → i ≤ b.size → ByteArray.toList.loop b i r = r.reverse ++ b.data.toList.drop i
  | 0, i, r, hk, hi => by
    have : i = b.size := by omega
    unfold ByteArray.toList.loop
    rw [if_neg (by omega)]
    have : b.data.toList.length ≤ i := by rw [Array.length_toList]; exact Nat.le_of_eq this.symm
    rw [List.drop_of_length_le this]; simp
  | k + 1, i, r, hk, hi => by
    have hlt : i < b.size := by omega
    unfold ByteArray.toList.loop
    rw [if_pos hlt, toList_loop b k (i + 1) _ (by omega) (by omega)]
    have hl : i < b.data.toList.length := by rw [Array.length_toList]; exact hlt
    rw [List.drop_eq_getElem_cons hl]
    have : b.get! i = b.data.toList[i] := by
      show b.data[i]! = _
      rw [getElem!_pos b.data i hlt]; simp
    rw [this]; simp
theorem toList_data (b : ByteArray) : b.toList = b.data.toList := by
  unfold ByteArray.toList
  rw [toList_loop b _ 0 [] rfl (Nat.zero_le _)]; simp
theorem str_list (bs : List UInt8) : (str bs).toList = bs := by rw [toList_data]; simp [str]
theorem str_data (s : ByteArray) : str s.data.toList = s := by cases s; simp [str]

section
variable {P : Program}
theorem rd_forBytes (h : Heap) : ∀ (bs : List UInt8) (s : ByteArray), rd P (forIn (bc bs).toArray s fun c s => (do
      let .int .u8 n := c | stuck "bytesToString: byte expected"
      pure (ForInStep.yield (s.push (UInt8.ofNat n.toNat))))) h = some ⟨s.data ++ bs.toArray⟩ := by
  intro bs
  simp only [List.forIn_toArray]
  induction bs with
  | nil => intro s; simp only [bc, List.map_nil, List.forIn_nil]; show some s = _; cases s; simp
  | cons b bs ih =>
    intro s
    have e : bc (b :: bs) = .int .u8 (b.toNat : Int) :: bc bs := rfl
    rw [e, List.forIn_cons]
    rw [rd_bind _ _ h (ForInStep.yield (s.push b)) (by show some (ForInStep.yield (s.push (UInt8.ofNat b.toNat))) = _; simp)]
    show rd P (forIn (bc bs) (s.push b) _) h = _
    rw [ih]
    simp [ByteArray.push]
/-- 'string(b)' -/
theorem conv_str {sT dT e : TypeId} {h : Heap} {p : Option Addr} {c n : Nat} {bs : List UInt8} (hs : P.underlying sT = some (.slice e)) (he : P.underlying e = some (.int .u8)) (hd : P.underlying dT = some .string)
    (hr : Row h p (bc bs)) (hn : n = bs.length) : ConvV P sT dT (.slice p n c) h (str bs) := by
  subst hn
  unfold ConvV convert
  rw [rd_bind _ _ _ _ (rd_underlying hs), rd_bind _ _ _ _ (rd_underlying hd)]
  show rd P (underlying e >>= _) h = _
  rw [rd_bind _ _ _ _ (rd_underlying he)]
  show rd P (Conv.bytesToString (.slice p bs.length c)) h = _
  cases p with
  | none =>
    have : bs = [] := by
      rcases hr with hr | ⟨a, e, _⟩
      · cases bs with
        | nil => rfl
        | cons b bs => cases hr
      · cases e
    subst this
    rfl
  | some a =>
    have hh : heldL a (bc bs) 0 h := by
      rcases hr with hr | ⟨a', e, hh⟩
      · rw [hr]; trivial
      · cases e; exact hh
    have hl : rd P (loadCells a bs.length) h = some (bc bs).toArray := by
      unfold loadCells
      rw [← bc_len, rd_loadCellsFrom (bc bs) 0 #[] h hh]; simp
    show rd P (loadCells a bs.length >>= fun cells => (forIn cells ByteArray.empty fun c s => (do
      let .int .u8 n := c | stuck "bytesToString: byte expected"
      pure (ForInStep.yield (s.push (UInt8.ofNat n.toNat))))) >>= fun s => pure (Value.string s)) h = _
    rw [rd_bind _ _ _ _ hl, rd_bind _ _ _ _ (rd_forBytes h bs ByteArray.empty)]
    show some (Value.string ⟨ByteArray.empty.data ++ bs.toArray⟩) = _
    have : (⟨ByteArray.empty.data ++ bs.toArray⟩ : ByteArray) = str bs := by
      unfold str; congr 1; show #[] ++ bs.toArray = bs.toArray; simp
    rw [this]
/-- bytes of a literal -/
theorem den_lit {t e : TypeId} {h : Heap} {a : Addr} {n c : Nat} {K : Value → Heap → Prop} (hs : P.underlying t = some (.slice e)) (he : P.underlying e = some (.int .u8)) {cs : Array Value} {ct : TypeId} {f : Nat × Nat} (hb : h[a.block]? = some (.cells cs ct f))
    (hk : ∀ h' f', h'[a.block]? = some (.cells cs ct f') → h'.size = h.size → (∀ x, x ≠ a.block → h'[x]? = h[x]?) → K (.slice (some a) n c) h') : denSem P (convert t t (.slice (some a) n c)) h K := by
  unfold convert
  refine den_of_rd (s := underlying t) (rd_underlying hs) ?_
  refine den_of_rd (s := underlying t) (rd_underlying hs) ?_
  show denSem P (underlying e >>= _) h K
  refine den_of_rd (s := underlying e) (rd_underlying he) ?_
  have ht : (t == t) = true := by simp
  rw [ht]
  show denSem P (markStringish a >>= fun _ => pure (.slice (some a) n c)) h K
  rw [den_bind]
  unfold markStringish shape
  have hsh : hshape h a.block = some (ct, cs.size) := by simp [hshape, hb]
  show denSem P (match hshape h a.block with | some (_, n) => freeze { block := a.block, off := n } 1 | _ => pure ()) h _
  rw [hsh]
  show K (.slice (some a) n c) (hfreeze h { block := a.block, off := cs.size } 1)
  unfold hfreeze
  rw [if_neg (by omega)]
  obtain ⟨lo, hi⟩ := f
  refine hk _ (if lo == hi then (cs.size, cs.size + 1) else (min lo cs.size, max hi (cs.size + 1))) ?_ (by simp) (fun x hx => ?_)
  · simp [Array.getElem?_modify, hb]
  · simp [Array.getElem?_modify, Ne.symm hx]
/-- a slice of bytes that a law is handed -/
theorem RokV.bytes {h : Heap} {t e : TypeId} {p : Option Addr} {len cap : Nat} (he : P.cellsOf e = 1) (hk : P.underlying e = some (.int .u8)) (ht : P.underlying t = some (.slice e)) (hv : RokV P h t (.slice p len cap)) :
    ∃ bs : List UInt8, bs.length = len ∧ Row h p (bc bs) := by
  obtain ⟨xs, h1, h2, h3⟩ := RokV.ints he hk ht hv
  refine ⟨xs.map fun x => UInt8.ofNat x.toNat, by simpa using h1, ?_⟩
  have : bc (xs.map fun x => UInt8.ofNat x.toNat) = xs.map (.int .u8 ·) := by
    unfold bc
    rw [List.map_map]
    refine List.map_congr_left fun x hx => ?_
    have := wf_u8 (h3 x hx)
    simp only [Function.comp, UInt8.toNat_ofNat', Value.int.injEq, true_and]
    omega
  rw [this]; exact h2
end

theorem Rok.bytes {P : Program} {h : Heap} {t e : TypeId} {n : Nat} {v : Value} (he : P.cellsOf e = 1) (hk : P.underlying e = some (.int .u8)) (ht : P.underlying t = some (.slice e)) (hr : Rok P h n t [v]) : ∃ p c bs, v = .slice p (bs : List UInt8).length c ∧ Row h p (bc bs) := by
  have : ∃ p l c, v = .slice p l c := by
    cases n with
    | zero => exact hr.elim
    | succ n =>
      unfold Rok at hr
      rw [ht] at hr
      rcases hr with hc | ⟨a, l, c, hc, _⟩
      · simp at hc; exact ⟨_, _, _, hc⟩
      · simp at hc; exact ⟨_, _, _, hc⟩
  obtain ⟨p, l, c, rfl⟩ := this
  obtain ⟨bs, hl, hrow⟩ := RokV.bytes he hk ht ⟨n, hr⟩
  subst hl
  exact ⟨p, c, bs, rfl, hrow⟩

/-! ### bits -/
theorem wrap_u8_nat (n : Nat) : IntKind.wrap .u8 (n : Int) = ((n % 256 : Nat) : Int) := by
  show (n : Int) % 256 = _
  omega
theorem wrap_u64_nat {n : Nat} (h : n < 18446744073709551616) : IntKind.wrap .u64 (n : Int) = (n : Int) := wrap_u64 (by omega) (by omega)
set_option maxRecDepth 100000 in
theorem or128 (n : Nat) : IntKind.wrap .u8 ((BitVec.ofInt (IntKind.bits .u8) (IntKind.wrap .u8 (n : Int)) ||| BitVec.ofInt (IntKind.bits .u8) 128).toNat : Int) = ((UInt8.ofNat (n % 128 + 128)).toNat : Int) := by
  have key : ∀ m : Fin 256, (((BitVec.ofInt 8 ((m.val : Nat) : Int) ||| BitVec.ofInt 8 128).toNat % 256 : Nat)) = m.val % 128 + 128 := by decide
  rw [wrap_u8_nat n, wrap_u8_nat]
  have k := key ⟨n % 256, by omega⟩
  simp only at k
  have e : IntKind.bits .u8 = 8 := rfl
  rw [e, k]
  rw [UInt8.toNat_ofNat']
  omega
set_option maxRecDepth 100000 in
theorem and128 (c : UInt8) : (IntKind.wrap .u8 ((BitVec.ofInt (IntKind.bits .u8) (c.toNat : Int) &&& BitVec.ofInt (IntKind.bits .u8) 128).toNat : Int) == 0) = decide (c.toNat < 128) := by
  have key : ∀ m : Fin 256, (((((BitVec.ofInt 8 ((m.val : Nat) : Int) &&& BitVec.ofInt 8 128).toNat % 256 : Nat) : Int)) == 0) = decide (m.val < 128) := by decide
  rw [wrap_u8_nat]
  exact key ⟨c.toNat, c.toNat_lt⟩
set_option maxRecDepth 100000 in
theorem and127 (c : UInt8) : IntKind.wrap .u8 ((BitVec.ofInt (IntKind.bits .u8) (c.toNat : Int) &&& BitVec.ofInt (IntKind.bits .u8) 127).toNat : Int) = ((c.toNat % 128 : Nat) : Int) := by
  have key : ∀ m : Fin 256, ((BitVec.ofInt 8 ((m.val : Nat) : Int) &&& BitVec.ofInt 8 127).toNat % 256 : Nat) = m.val % 128 := by decide
  rw [wrap_u8_nat]
  exact congrArg (fun x : Nat => (x : Int)) (key ⟨c.toNat, c.toNat_lt⟩)
/-- seven bits more -/
theorem or_shl {n d i : Nat} (hn : n < 2 ^ i) (hd : d * 2 ^ i < 18446744073709551616) (hi : i ≤ 64) :
    IntKind.wrap .u64 ((BitVec.ofInt (IntKind.bits .u64) (n : Int) ||| BitVec.ofInt (IntKind.bits .u64) (IntKind.wrap .u64 ((d : Int) * 2 ^ min (Int.toNat (i : Int)) (IntKind.bits .u64)))).toNat : Int) = ((n + d * 2 ^ i : Nat) : Int) := by
  have e64 : IntKind.bits .u64 = 64 := rfl
  have hp : (0 : Nat) < 2 ^ i := Nat.two_pow_pos i
  rw [Int.toNat_natCast, e64, Nat.min_eq_left hi]
  have e1 : ((d : Int) * 2 ^ i) = ((d * 2 ^ i : Nat) : Int) := by simp
  rw [e1, wrap_u64_nat hd]
  have hn64 : n < 18446744073709551616 := by
    have : (2 : Nat) ^ i ≤ 2 ^ 64 := Nat.pow_le_pow_right (by omega) hi
    omega
  have e2 : ∀ m : Nat, m < 18446744073709551616 → (BitVec.ofInt 64 (m : Int)).toNat = m := fun m hm => by
    rw [BitVec.toNat_ofInt]; omega
  rw [BitVec.toNat_or, e2 n hn64, e2 _ hd]
  have e3 : n ||| d * 2 ^ i = n + d * 2 ^ i := by
    rw [Nat.or_comm, Nat.mul_comm, ← Nat.two_pow_add_eq_or_of_lt hn d]; omega
  rw [e3]
  refine wrap_u64_nat ?_
  -- n + d 2^i < 2^64
  have hdiv : d < 2 ^ (64 - i) := by
    have : (18446744073709551616 : Nat) = 2 ^ (64 - i) * 2 ^ i := by rw [← Nat.pow_add, Nat.sub_add_cancel hi]
    rw [this] at hd
    exact Nat.lt_of_mul_lt_mul_right hd
  have : (d + 1) * 2 ^ i ≤ 2 ^ (64 - i) * 2 ^ i := Nat.mul_le_mul_right _ hdiv
  rw [← Nat.pow_add, Nat.sub_add_cancel hi, Nat.add_mul] at this
  omega
theorem shr7 {n : Nat} : Int.fdiv (n : Int) (2 ^ min (Int.toNat 7) (IntKind.bits .u64)) = ((n / 128 : Nat) : Int) := by
  show Int.fdiv (n : Int) 128 = _
  rw [Int.fdiv_eq_ediv_of_nonneg _ (by omega)]; omega
end Go.Den
