/-
  What is proved here: 'Ring' and 'All' of package alarm tell the keys in the order in which they are due; the law's fixed calls. No condition.
-/
import Derived.Test.YtgccegnmggjkjaaAlarm
set_option maxRecDepth 100000
namespace Go.Proofs.Ytgccegnmggjkjaa
open Go.Den Go.Heapq
namespace Alarm
variable {h : Heap} {a m cap : Nat} {p : Option Addr} {es : List E} {g : Int → Option Value} {R : Value → Heap → Prop} {S : Nat → Prop} {L : List E}

def isDue (now : Int) (e : E) : Bool := decide (e.2 ≤ now)
def due (L : List E) (now : Int) : List E := L.takeWhile (isDue now)
def rest (L : List E) (now : Int) : List E := L.dropWhile (isDue now)
/-- keys as cells -/
def kc (L : List E) : List Value := (keys L).map (.int .i64 ·)
theorem kc_len : (kc L).length = L.length := by simp [kc, keys]
theorem due_split {D T : List E} {now : Int} (hd : ∀ e ∈ D, isDue now e = true) (ht : ∀ e r, T = e :: r → isDue now e = false) : due (D ++ T) now = D ∧ rest (D ++ T) now = T := by
  unfold due rest
  induction D with
  | nil =>
    cases T with
    | nil => exact ⟨rfl, rfl⟩
    | cons e r => simp [List.takeWhile, List.dropWhile, ht e r rfl]
  | cons d D ih =>
    have h1 := hd d List.mem_cons_self
    obtain ⟨i1, i2⟩ := ih fun e he => hd e (List.mem_cons_of_mem _ he)
    simp only [List.cons_append, List.takeWhile_cons, List.dropWhile_cons, h1, if_true]
    exact ⟨by rw [i1], i2⟩

def ringI (h0 : Heap) (a : Nat) (S : Nat → Prop) (L : List E) (now : Int) (out : Option Addr) (l c : Nat) (key t : Int) (is : Bool) (h : Heap) : Prop :=
  ∃ D T, L = D ++ T ∧ (∀ e ∈ D, isDue now e = true) ∧ Al h a S T ∧ key = (hd T).1 ∧ t = (hd T).2 ∧ is = !T.isEmpty ∧ l = D.length ∧ Own h out l c 1 (kc D) ∧ (∀ x, inBlk out x → h0.size ≤ x) ∧ Fr S h0 h

theorem ring_ok (A : Al h a S L) (hn : L.length < 999999) (now : Int)
    (hk : ∀ h' p' cap', Al h' a S (rest L now) → Own h' p' (due L now).length cap' 1 (kc (due L now)) → (∀ c, inBlk p' c → h.size ≤ c) → Fr S h h' → R (.slice p' (due L now).length cap') h') :
    CallsH Try.prog F.alarm_Alarm_Ring #[.pointer (some ⟨a, 0, none⟩), .int .u64 now] h R := by
  refine alarm_Alarm_Ring.walk (next_ok A ⟨_, _, _, rfl, ?_⟩)
  refine ⟨ringI h a S L now, fun _ l _ _ _ _ _ => L.length - l, ⟨[], L, rfl, (fun _ he => by cases he), A, rfl, rfl, rfl, rfl, .nil rfl rfl rfl rfl, (fun c ⟨_, e, _⟩ => by cases e), Fr.refl _ _⟩, ?_⟩
  rintro out l c key t is h2 ⟨D, U, eL, hD, A2, rfl, rfl, rfl, rfl, o2, ob, f2⟩
  refine JoinP.of fun J hJ => ?_
  have stop : (∀ e r, U = e :: r → isDue now e = false) → J false h2 := fun ht => by
    subst hJ
    simp only [Bool.false_eq_true, if_false]
    obtain ⟨e1, e2⟩ := due_split hD ht
    rw [← eL] at e1 e2
    rw [← e1]
    rw [← e1] at o2
    exact hk h2 out c (by rw [e2]; exact A2) o2 ob f2
  cases U with
  | nil => exact stop (fun e r x => by cases x)
  | cons e U =>
    simp only [List.isEmpty_cons, Bool.not_false, if_true]
    by_cases hdue : e.2 ≤ now
    · rw [show decide ((hd (e :: U)).2 ≤ now) = true from decide_eq_true hdue]
      subst hJ
      simp only [if_true]
      rintro b h4 rfl rfl
      have hlen : L.length = D.length + (U.length + 1) := by rw [eL]; simp
      have fp : Fr (fun _ => False) h2 (h2.push (.cells #[.int .i64 (hd (e :: U)).1] T.int)) := Fr.push _ _
      have row : Row (h2.push (.cells #[.int .i64 (hd (e :: U)).1] T.int)) (some ⟨h2.size, 0, none⟩) (kc [e]) := .inr ⟨_, rfl, heldL_blk push_new fun j v hj => by rw [Nat.zero_add]; simpa [kc, keys, hd] using hj⟩
      have sz : h2.size ≤ (h2.push (.cells #[.int .i64 (hd (e :: U)).1] T.int)).size := fp.1
      refine den_append tI (eT := T.int) (by kernel_rfl) (o2.frame fp fun _ _ => id) row rfl (fun v hv => by simp [kc, keys] at hv; subst hv; rfl) (by omega) (by omega) fun p' cap' h5 o5 _ f5 gr => ⟨_, _, _, rfl, ?_⟩
      have ekc : kc D ++ kc [e] = kc (D ++ [e]) := by simp [kc, keys]
      rw [ekc] at o5
      have hSlt : ∀ {c}, S c → c < h.size := fun hc => A.lt hc
      have A5 := (A2.frame fp fun _ _ => id).frame f5 (fun c hc hx => by have := ob c hx; have := hSlt hc; omega)
      have ob5 : ∀ c, inBlk p' c → h.size ≤ c := fun c hc => by
        rcases gr c hc with hx | hx
        · exact ob c hx
        · have := f2.1; omega
      have f25 : Fr S h h5 := f2.trans (Fr.no fp f5) (fun _ _ => id) (fun c hc hx => by have := ob c hx; omega)
      refine drop_ok A5 (by simp; omega) _ (fun _ h6 A6 f6 => ⟨_, rfl, ?_⟩) (fun hno => absurd (by exact List.mem_cons_self) hno)
      rw [show dropK (e :: U) (hd (e :: U)).1 = U from dropK_head A5.nodup] at A6
      refine next_ok A6 ⟨_, _, _, rfl, ⟨D ++ [e], U, by rw [eL]; simp, ?_, A6, rfl, rfl, rfl, by simp, ?_, ob5, Fr.tt f25 f6⟩, ?_⟩
      · intro x hx
        rcases List.mem_append.1 hx with hx | hx
        · exact hD x hx
        · simp at hx; subst hx; exact decide_eq_true hdue
      · exact o5.frame f6 fun c hc hx => by have := ob5 c hc; have := hSlt hx; omega
      · show L.length - (D.length + 1) < L.length - D.length
        omega
    · rw [show decide ((hd (e :: U)).2 ≤ now) = false from decide_eq_false hdue]
      exact stop fun e' r x => by cases x; exact decide_eq_false hdue
theorem ring_zero (Z : Zero h a) (now : Int) (hk : R (.slice none 0 0) h) : CallsH Try.prog F.alarm_Alarm_Ring #[.pointer (some ⟨a, 0, none⟩), .int .u64 now] h R := by
  refine alarm_Alarm_Ring.walk (next_zero Z ⟨_, _, _, rfl, ?_⟩)
  refine ⟨fun p l c _ _ is h' => p = none ∧ l = 0 ∧ c = 0 ∧ is = false ∧ h' = h, fun _ _ _ _ _ _ _ => 0, ⟨rfl, rfl, rfl, rfl, rfl⟩, ?_⟩
  rintro _ _ _ _ _ _ _ ⟨rfl, rfl, rfl, rfl, rfl⟩
  simp only [Bool.false_eq_true, if_false, JoinP]
  exact hk

theorem due_all (hg : Good L) : due L 1099511627776 = L ∧ rest L 1099511627776 = [] := by
  have := due_split (D := L) (T := []) (now := 1099511627776) (fun e he => decide_eq_true (hg e he).2.2.2) (fun e r x => by cases x)
  rwa [List.append_nil] at this

theorem key_at {p : Option Addr} {l c : Nat} (o : Own h p l c 1 (kc L)) {i : Nat} (hi : i < L.length) : ∃ ad, p = some ad ∧ hcell h (ad.add (i * 1)) = some (.int .i64 (at_ L i).1) := by
  have hc : (kc L)[i]? = some (.int .i64 (at_ L i).1) := by simp [kc, keys, at_, hi]
  obtain ⟨b, off, rfl⟩ := o.some (by rw [kc_len]; omega)
  exact ⟨_, rfl, by rw [Nat.mul_one]; exact o.cell hc⟩

end Alarm
end Go.Proofs.Ytgccegnmggjkjaa
