/-
  What is proved here: 'Ring' and 'All' of package alarm tell the keys in the order in which they are due; the law's fixed calls. No condition.
-/
import Derived.Test.YtcdmemcmmfgdlaaAlarm
import Derived.Test.YtcdmemcmmfgdlaaVcC
namespace Go.Proofs.Ytcdmemcmmfgdlaa
open Go.Den Go.Heapq
namespace Alarm
variable {h : Heap} {a m cap : Nat} {p : Option Addr} {es : List E} {g : Int → Option Value} {R : Value → Heap → Prop} {S : Nat → Prop} {L : List E}

def isDue (now : Int) (e : E) : Bool := decide (e.2 ≤ now)
def due (L : List E) (now : Int) : List E := L.takeWhile (isDue now)
def rest (L : List E) (now : Int) : List E := L.dropWhile (isDue now)
/-- keys as cells -/
def kc (L : List E) : List Value := (keys L).map (.int .i64 ·)
theorem kc_len : (kc L).length = L.length := by simp [kc, keys]
theorem due_split {D T : List E} {now : Int} (hd : ∀ e ∈ D, isDue now e = true) (ht : ∀ e r, T = e :: r → isDue now e = false) : due (D ++ T) now = D ∧ rest (D ++ T) now = T := by
  unfold due rest
  induction D with
  | nil =>
    cases T with
    | nil => exact ⟨rfl, rfl⟩
    | cons e r => simp [List.takeWhile, List.dropWhile, ht e r rfl]
  | cons d D ih =>
    have h1 := hd d List.mem_cons_self
    obtain ⟨i1, i2⟩ := ih fun e he => hd e (List.mem_cons_of_mem _ he)
    simp only [List.cons_append, List.takeWhile_cons, List.dropWhile_cons, h1, if_true]
    exact ⟨by rw [i1], i2⟩

def ringI (h0 : Heap) (a : Nat) (S : Nat → Prop) (L : List E) (now : Int) (out : Option Addr) (l c : Nat) (key t : Int) (is : Bool) (h : Heap) : Prop :=
  ∃ D T, L = D ++ T ∧ (∀ e ∈ D, isDue now e = true) ∧ Al h a S T ∧ key = (hd T).1 ∧ t = (hd T).2 ∧ is = !T.isEmpty ∧ l = D.length ∧ Own h out l c 1 (kc D) ∧ (∀ x, inBlk out x → h0.size ≤ x) ∧ Fr S h0 h

theorem ring_ok (A : Al h a S L) (hn : L.length < 999999) (now : Int)
    (hk : ∀ h' p' cap', Al h' a S (rest L now) → Own h' p' (due L now).length cap' 1 (kc (due L now)) → (∀ c, inBlk p' c → h.size ≤ c) → Fr S h h' → R (.slice p' (due L now).length cap') h') :
    CallsH Try.prog F.alarm_Alarm_Ring #[.pointer (some ⟨a, 0, none⟩), .int .u64 now] h R := by
  refine alarm_Alarm_Ring.walk (next_ok A ⟨_, _, _, rfl, ?_⟩)
  refine ⟨ringI h a S L now, fun _ l _ _ _ _ _ => L.length - l, ⟨[], L, rfl, (fun _ he => by cases he), A, rfl, rfl, rfl, rfl, .nil rfl rfl rfl rfl, (fun c ⟨_, e, _⟩ => by cases e), Fr.refl _ _⟩, ?_⟩
  rintro out l c key t is h2 ⟨D, U, eL, hD, A2, rfl, rfl, rfl, rfl, o2, ob, f2⟩
  refine JoinP.of fun J hJ => ?_
  have stop : (∀ e r, U = e :: r → isDue now e = false) → J false h2 := fun ht => by
    subst hJ
    simp only [Bool.false_eq_true, if_false]
    obtain ⟨e1, e2⟩ := due_split hD ht
    rw [← eL] at e1 e2
    rw [← e1]
    rw [← e1] at o2
    exact hk h2 out c (by rw [e2]; exact A2) o2 ob f2
  cases U with
  | nil => exact stop (fun e r x => by cases x)
  | cons e U =>
    simp only [List.isEmpty_cons, Bool.not_false, if_true]
    by_cases hdue : e.2 ≤ now
    · rw [show decide ((hd (e :: U)).2 ≤ now) = true from decide_eq_true hdue]
      subst hJ
      simp only [if_true]
      rintro b h4 rfl rfl
      have hlen : L.length = D.length + (U.length + 1) := by rw [eL]; simp
      have fp : Fr (fun _ => False) h2 (h2.push (.cells #[.int .i64 (hd (e :: U)).1] T.int)) := Fr.push _ _
      have row : Row (h2.push (.cells #[.int .i64 (hd (e :: U)).1] T.int)) (some ⟨h2.size, 0, none⟩) (kc [e]) := .inr ⟨_, rfl, heldL_blk push_new fun j v hj => by rw [Nat.zero_add]; simpa [kc, keys, hd] using hj⟩
      have sz : h2.size ≤ (h2.push (.cells #[.int .i64 (hd (e :: U)).1] T.int)).size := fp.1
      refine den_append tI (eT := T.int) (by kernel_rfl) (o2.frame fp fun _ _ => id) row rfl (fun v hv => by simp [kc, keys] at hv; subst hv; rfl) (by omega) (by omega) fun p' cap' h5 o5 _ f5 gr => ⟨_, _, _, rfl, ?_⟩
      have ekc : kc D ++ kc [e] = kc (D ++ [e]) := by simp [kc, keys]
      rw [ekc] at o5
      have hSlt : ∀ {c}, S c → c < h.size := fun hc => A.lt hc
      have A5 := (A2.frame fp fun _ _ => id).frame f5 (fun c hc hx => by have := ob c hx; have := hSlt hc; omega)
      have ob5 : ∀ c, inBlk p' c → h.size ≤ c := fun c hc => by
        rcases gr c hc with hx | hx
        · exact ob c hx
        · have := f2.1; omega
      have f25 : Fr S h h5 := f2.trans (Fr.no fp f5) (fun _ _ => id) (fun c hc hx => by have := ob c hx; omega)
      refine drop_ok A5 (by simp; omega) _ (fun _ h6 A6 f6 => ⟨_, rfl, ?_⟩) (fun hno => absurd (by exact List.mem_cons_self) hno)
      rw [show dropK (e :: U) (hd (e :: U)).1 = U from dropK_head A5.nodup] at A6
      refine next_ok A6 ⟨_, _, _, rfl, ⟨D ++ [e], U, by rw [eL]; simp, ?_, A6, rfl, rfl, rfl, by simp, ?_, ob5, Fr.tt f25 f6⟩, ?_⟩
      · intro x hx
        rcases List.mem_append.1 hx with hx | hx
        · exact hD x hx
        · simp at hx; subst hx; exact decide_eq_true hdue
      · exact o5.frame f6 fun c hc hx => by have := ob5 c hc; have := hSlt hx; omega
      · show L.length - (D.length + 1) < L.length - D.length
        omega
    · rw [show decide ((hd (e :: U)).2 ≤ now) = false from decide_eq_false hdue]
      exact stop fun e' r x => by cases x; exact decide_eq_false hdue
theorem ring_zero (Z : Zero h a) (now : Int) (hk : R (.slice none 0 0) h) : CallsH Try.prog F.alarm_Alarm_Ring #[.pointer (some ⟨a, 0, none⟩), .int .u64 now] h R := by
  refine alarm_Alarm_Ring.walk (next_zero Z ⟨_, _, _, rfl, ?_⟩)
  refine ⟨fun p l c _ _ is h' => p = none ∧ l = 0 ∧ c = 0 ∧ is = false ∧ h' = h, fun _ _ _ _ _ _ _ => 0, ⟨rfl, rfl, rfl, rfl, rfl⟩, ?_⟩
  rintro _ _ _ _ _ _ _ ⟨rfl, rfl, rfl, rfl, rfl⟩
  simp only [Bool.false_eq_true, if_false, JoinP]
  exact hk

theorem due_all (hg : Good L) : due L 1099511627776 = L ∧ rest L 1099511627776 = [] := by
  have := due_split (D := L) (T := []) (now := 1099511627776) (fun e he => decide_eq_true (hg e he).2.2.2) (fun e r x => by cases x)
  rwa [List.append_nil] at this

def allI (h0 : Heap) (n0 b : Nat) (es : List E) (i : Int) (h : Heap) : Prop :=
  ∃ k S L, i = ((k : Nat) : Int) ∧ k ≤ es.length ∧ Al h b S L ∧ L.Perm (es.take k) ∧ (∀ c, S c → n0 ≤ c) ∧ Fr (fun _ => False) h0 h

theorem all_ok (A : Al h a S L) (hn : L.length < 999998)
    (hk : ∀ h' p' cap', Own h' p' L.length cap' 1 (kc L) → (∀ c, inBlk p' c → h.size ≤ c) → Fr (fun _ => False) h h' → R (.slice p' L.length cap') h') :
    CallsH Try.prog F.alarm_Alarm_All #[.pointer (some ⟨a, 0, none⟩)] h R := by
  refine alarm_Alarm_All.walk (new_ok fun b S1 h1 A1 g1 f1 => ⟨_, rfl, ?_⟩)
  have so := A.sorted
  have gd := A.good
  obtain ⟨p, cap, m, es, g, M, P, H, pm, -, -, hS⟩ := A
  have hlen := pm.length_eq
  refine JoinP.of fun J hJ => ⟨_, _, _, (M.calm f1).hd, ?_⟩
  refine ⟨allI h h.size b es, fun i _ => es.length - i.toNat, ⟨0, S1, [], rfl, by omega, A1, by simp, g1, f1⟩, ?_⟩
  rintro i h4 ⟨k, S4, L4, rfl, hk4, A4, pm4, g4, f4⟩
  by_cases hlt : k < es.length
  · have hlt' : (k : Int) < (es.length : Int) := by omega
    simp only [hlt', decide_true, if_true, Int.toNat_natCast]
    have M4 := M.calm f4
    obtain ⟨ad, rfl⟩ := M.some (by omega)
    refine ⟨⟨by omega, trivial⟩, onSome_some.2 ⟨_, M4.c0 hlt, _, M4.c1 hlt, local1 fun x h7 hx sx f7 => ?_⟩⟩
    refine ⟨_, cell_at hx rfl, _, cell_at hx rfl, ?_⟩
    have hmem : at_ es k ∈ L := pm.mem_iff.1 (at_mem hlt)
    obtain ⟨b1, b2, b3, b4⟩ := gd _ hmem
    have l4 := pm4.length_eq
    rw [List.length_take] at l4
    have e0 : es.take (k + 1) = es.take k ++ [at_ es k] := by
      rw [at_get hlt]; exact (List.take_append_getElem hlt).symm
    have nin : (at_ es k).1 ∉ keys L4 := fun hm => by
      have h1 := (keys_perm pm4).mem_iff.1 hm
      obtain ⟨j, hj, e⟩ := mem_keys h1
      rw [List.length_take] at hj
      rw [at_take (by omega)] at e
      have := key_inj P.1 (by omega) hlt e
      omega
    have mm : may (at_ es k).1 (at_ es k).2 = true := may_iff.2 ⟨b1, b2, b4⟩
    refine set_ok (A4.frame f7 fun _ _ => id) (by omega) _ _ b3 (fun _ h8 S8 A8 g8 f8 => ⟨_, rfl, ?_⟩) (fun hf => by rw [hf] at mm; cases mm)
    rw [wrap_id (by omega) (by omega)]
    refine ⟨⟨k + 1, S8, _, by omega, by omega, A8, ?_, ?_, ?_⟩, ?_⟩
    · rw [e0]
      unfold setL
      rw [dropK_none nin]
      exact (insertS_perm _ _).trans ((pm4.cons _).trans (List.perm_append_singleton _ _).symm)
    · intro c hc
      rcases g8 c hc with hx | hx
      · exact g4 c hx
      · have := f4.1; have := f7.1; omega
    · exact (Fr.on f4 f7).step f8 fun c hc hx => by have := g4 c hx; omega
    · show es.length - Int.toNat ((k : Int) + 1) < es.length - Int.toNat (k : Int)
      omega
  · obtain rfl : k = es.length := by omega
    have hlt' : ¬ ((es.length : Int) < (es.length : Int)) := by omega
    simp only [hlt', decide_false, Bool.false_eq_true, if_false]
    subst hJ
    rw [List.take_of_length_le (Nat.le_refl _)] at pm4
    obtain rfl : L4 = L := perm_sorted (pm4.trans pm) A4.sorted so
    refine ring_ok A4 (by omega) _ fun h5 p' cap' A5 o5 g5 f5 => ⟨_, _, _, rfl, ?_⟩
    rw [(due_all gd).1] at o5 ⊢
    exact hk h5 p' cap' o5 (fun c hc => by have := g5 c hc; have := f4.1; omega) (f4.step f5 fun c hc hx => by have := g4 c hx; omega)
theorem all_nil (hk : ∀ h' p' c', Fr (fun _ => False) h h' → R (.slice p' 0 c') h') : CallsH Try.prog F.alarm_Alarm_All #[.pointer none] h R := by
  refine alarm_Alarm_All.nil.walk (new_ok fun b S1 h1 A1 g1 f1 => ⟨_, rfl, ?_⟩)
  simp only [JoinP]
  refine ring_ok A1 (by simp) _ fun h5 p' cap' A5 o5 g5 f5 => ⟨_, _, _, rfl, ?_⟩
  exact hk h5 p' cap' (f1.step f5 fun c hc hx => by have := g1 c hx; omega)

theorem key_at {p : Option Addr} {l c : Nat} (o : Own h p l c 1 (kc L)) {i : Nat} (hi : i < L.length) : ∃ ad, p = some ad ∧ hcell h (ad.add (i * 1)) = some (.int .i64 (at_ L i).1) := by
  have hc : (kc L)[i]? = some (.int .i64 (at_ L i).1) := by simp [kc, keys, at_, hi]
  obtain ⟨b, off, rfl⟩ := o.some (by rw [kc_len]; omega)
  exact ⟨_, rfl, by rw [Nat.mul_one]; exact o.cell hc⟩

theorem alive_ok (hk : ∀ h', Fr (fun _ => False) h h' → R (.bool true) h') : CallsH Try.prog F.law20_alive #[] h R := by
  refine law20_alive.walk (new_ok fun a S1 h1 A1 g1 f1 => ⟨_, rfl, ?_⟩)
  have fs : ∀ {x y : Heap} {S : Nat → Prop}, Fr (fun _ => False) h x → (∀ c, S c → h.size ≤ c) → Fr S x y → Fr (fun _ => False) h y := fun f g s => f.step s fun c hc hx => by have := g c hx; omega
  have gs : ∀ {x : Heap} {S S' : Nat → Prop}, Fr (fun _ => False) h x → (∀ c, S c → h.size ≤ c) → (∀ c, S' c → S c ∨ x.size ≤ c) → (∀ c, S' c → h.size ≤ c) := fun f g s c hc => by
    rcases s c hc with hx | hx
    · exact g c hx
    · have := f.1; omega
  refine set_ok A1 (by simp) 2 5 (by omega) (fun _ h2 S2 A2 g2 f2 => ⟨_, rfl, ?_⟩) (fun hf => by cases hf)
  have g2 := gs f1 g1 g2; have f2 := fs f1 g1 f2
  refine set_ok A2 (by decide) 1 5 (by omega) (fun _ h3 S3 A3 g3 f3 => ⟨_, rfl, ?_⟩) (fun hf => by cases hf)
  have g3 := gs f2 g2 g3; have f3 := fs f2 g2 f3
  refine set_ok A3 (by decide) 3 9 (by omega) (fun _ h4 S4 A4 g4 f4 => ⟨_, rfl, ?_⟩) (fun hf => by cases hf)
  have g4 := gs f3 g3 g4; have f4 := fs f3 g3 f4
  rw [show setL (setL (setL [] 2 5) 1 5) 3 9 = [(1, 5), (2, 5), (3, 9)] by decide] at A4
  refine next_ok A4 ⟨_, _, _, rfl, ?_⟩
  refine ring_ok A4 (by decide) 5 fun h6 p' cap' A6 o6 g6 f6 => ⟨_, _, _, rfl, ?_⟩
  have f6 := fs f4 g4 f6
  have e1 : due [(1, 5), (2, 5), (3, 9)] 5 = [(1, 5), (2, 5)] := by decide
  have e2 : rest [(1, 5), (2, 5), (3, 9)] 5 = [(3, 9)] := by decide
  rw [e1] at o6 ⊢
  rw [e2] at A6
  obtain ⟨ad, rfl, c0⟩ := key_at o6 (i := 0) (by decide)
  obtain ⟨_, e, c1⟩ := key_at o6 (i := 1) (by decide)
  cases e
  show _ ∧ _
  refine ⟨⟨by omega, by decide⟩, onSome_some.2 ⟨1, c0, ?_⟩⟩
  show _ ∧ _
  refine ⟨⟨by omega, by decide⟩, onSome_some.2 ⟨2, c1, ?_⟩⟩
  rw [if_pos (by decide)]
  refine len_ok A6 ⟨_, rfl, ?_⟩
  rw [if_pos (by decide)]
  refine drop_ok A6 (by decide) 2 (fun hm => by simp [keys] at hm) (fun _ => ⟨_, rfl, ?_⟩)
  rw [if_pos (by decide)]
  exact set_ok A6 (by decide) 0 1 (by omega) (fun hf => by cases hf) (fun _ => ⟨_, rfl, hk h6 f6⟩)

end Alarm
end Go.Proofs.Ytcdmemcmmfgdlaa
