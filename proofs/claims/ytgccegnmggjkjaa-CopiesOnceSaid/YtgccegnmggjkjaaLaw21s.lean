/-
  What is proved here: CopiesOnce's memory: a table and three lists. No condition.
-/
import Derived.Test.YtgccegnmggjkjaaLaw21
import Derived.Test.YtgccegnmggjkjaaCpR
set_option maxRecDepth 100000
namespace Go.Proofs.Ytgccegnmggjkjaa
open Go.Den Go.Heapq
namespace Cps
open Eid Alarm Fld
variable {P : Nat → Prop} {h0 h h' : Heap} {t : Nat} {X X' : Ft} {s s' : CF} {hp fp up hp' : Option Addr} {hc fc uc hc' : Nat} {hl fl ul hl' : List Int}

structure St (P : Nat → Prop) (h0 h : Heap) (t : Nat) (X : Ft) (s : CF) (hp : Option Addr) (hc : Nat) (fp : Option Addr) (fc : Nat) (up : Option Addr) (uc : Nat) (hl fl ul : List Int) : Prop where
  ct : Ct h t X s
  upf : UpF h0 X h
  oh : Own h hp hl.length hc 1 (hl.map (.int .i64 ·))
  of : Own h fp fl.length fc 1 (fl.map (.int .i64 ·))
  ou : Own h up ul.length uc 1 (ul.map (.int .u64 ·))
  ap : ∀ c, X.M c ∨ X.D c → ¬ (inBlk hp c ∨ inBlk fp c ∨ inBlk up c)
  ge : ∀ c, (inBlk hp c ∨ inBlk fp c ∨ inBlk up c) → h0.size ≤ c
  hf : ∀ c, inBlk hp c → ¬ inBlk fp c
  hu : ∀ c, inBlk hp c → ¬ inBlk up c
  fu : ∀ c, inBlk fp c → ¬ inBlk up c
  pr : ∀ c, P c → c < h.size ∧ ¬ X.M c ∧ ¬ (inBlk hp c ∨ inBlk fp c ∨ inBlk up c)
theorem St.lt (S : St P h0 h t X s hp hc fp fc up uc hl fl ul) {c : Nat} (hc : inBlk hp c ∨ inBlk fp c ∨ inBlk up c) : c < h.size := by
  rcases hc with h1 | h1 | h1
  · exact S.oh.blk_lt h1
  · exact S.of.blk_lt h1
  · exact S.ou.blk_lt h1
theorem St.step (S : St P h0 h t X s hp hc fp fc up uc hl fl ul) (H : Ct h' t X' s') (st : StepF X h X' h') : St P h0 h' t X' s' hp hc fp fc up uc hl fl ul ∧ Fr (fun c => ¬ P c) h h' :=
  ⟨⟨H, S.upf.step st, S.oh.frame st.fr (fun c hc hm => S.ap c (.inl hm) (.inl hc)), S.of.frame st.fr (fun c hc hm => S.ap c (.inl hm) (.inr (.inl hc))), S.ou.frame st.fr (fun c hc hm => S.ap c (.inl hm) (.inr (.inr hc))),
    st.apart S.ap (fun c hc => S.lt hc), S.ge, S.hf, S.hu, S.fu, fun c hc => ⟨Nat.lt_of_lt_of_le (S.pr c hc).1 st.fr.1, fun hm => by
      rcases st.newM c hm with h1 | h1
      · exact (S.pr c hc).2.1 h1
      · have := (S.pr c hc).1; omega, (S.pr c hc).2.2⟩⟩, st.fr.mono fun c _ hm hP => (S.pr c hP).2.1 hm⟩
theorem St.on (S : St P h0 h t X s hp hc fp fc up uc hl fl ul) (f : Fr (fun _ => False) h h') : St P h0 h' t X s hp hc fp fc up uc hl fl ul := (S.step (S.ct.on f) (StepF.of_no f)).1
theorem St.more {P' : Nat → Prop} (S : St P h0 h t X s hp hc fp fc up uc hl fl ul) (hP : ∀ c, P' c → c < h.size ∧ ¬ X.M c ∧ ¬ (inBlk hp c ∨ inBlk fp c ∨ inBlk up c)) : St P' h0 h t X s hp hc fp fc up uc hl fl ul :=
  ⟨S.ct, S.upf, S.oh, S.of, S.ou, S.ap, S.ge, S.hf, S.hu, S.fu, hP⟩
theorem St.newH (S : St P h0 h t X s hp hc fp fc up uc hl fl ul) (o : Own h' hp' hl'.length hc' 1 (hl'.map (.int .i64 ·))) (f : Fr (inBlk hp) h h') (g : ∀ c, inBlk hp' c → inBlk hp c ∨ h.size ≤ c) :
    St P h0 h' t X s hp' hc' fp fc up uc hl' fl ul ∧ Fr (fun c => ¬ P c) h h' := by
  have z := S.upf.fr.1
  refine ⟨⟨S.ct.frame f (fun y hy hb => S.ap y hy (.inl hb)), ⟨S.upf.fr.fresh f (fun c hc => S.ge c (.inl hc)), S.upf.ge⟩, o, S.of.frame f (fun c hc hx => S.hf c hx hc), S.ou.frame f (fun c hc hx => S.hu c hx hc), fun c hc hx => ?_, fun c hx => ?_, fun c h1 h2 => ?_, fun c h1 h2 => ?_, S.fu, fun c hc => ⟨Nat.lt_of_lt_of_le (S.pr c hc).1 f.1, (S.pr c hc).2.1, fun hx => ?_⟩⟩, f.mono fun c _ hb hP => (S.pr c hP).2.2 (.inl hb)⟩
  · rcases hx with h1 | h1
    · rcases g c h1 with h2 | h2
      · exact S.ap c hc (.inl h2)
      · have := S.ct.lt c hc; omega
    · exact S.ap c hc (.inr h1)
  · rcases hx with h1 | h1
    · rcases g c h1 with h2 | h2
      · exact S.ge c (.inl h2)
      · omega
    · exact S.ge c (.inr h1)
  · rcases g c h1 with h3 | h3
    · exact S.hf c h3 h2
    · have := S.of.blk_lt h2; omega
  · rcases g c h1 with h3 | h3
    · exact S.hu c h3 h2
    · have := S.ou.blk_lt h2; omega
  · have hpr := S.pr c hc
    rcases hx with h1 | h1
    · rcases g c h1 with h3 | h3
      · exact hpr.2.2 (.inl h3)
      · omega
    · exact hpr.2.2 (.inr h1)
theorem St.newF (S : St P h0 h t X s hp hc fp fc up uc hl fl ul) (o : Own h' hp' hl'.length hc' 1 (hl'.map (.int .i64 ·))) (f : Fr (inBlk fp) h h') (g : ∀ c, inBlk hp' c → inBlk fp c ∨ h.size ≤ c) :
    St P h0 h' t X s hp hc hp' hc' up uc hl hl' ul ∧ Fr (fun c => ¬ P c) h h' := by
  have z := S.upf.fr.1
  refine ⟨⟨S.ct.frame f (fun y hy hb => S.ap y hy (.inr (.inl hb))), ⟨S.upf.fr.fresh f (fun c hc => S.ge c (.inr (.inl hc))), S.upf.ge⟩, S.oh.frame f (fun c hc hx => S.hf c hc hx), o, S.ou.frame f (fun c hc hx => S.fu c hx hc), fun c hc hx => ?_, fun c hx => ?_, fun c h1 h2 => ?_, S.hu, fun c h1 h2 => ?_, fun c hc => ⟨Nat.lt_of_lt_of_le (S.pr c hc).1 f.1, (S.pr c hc).2.1, fun hx => ?_⟩⟩, f.mono fun c _ hb hP => (S.pr c hP).2.2 (.inr (.inl hb))⟩
  · rcases hx with h1 | h1 | h1
    · exact S.ap c hc (.inl h1)
    · rcases g c h1 with h2 | h2
      · exact S.ap c hc (.inr (.inl h2))
      · have := S.ct.lt c hc; omega
    · exact S.ap c hc (.inr (.inr h1))
  · rcases hx with h1 | h1 | h1
    · exact S.ge c (.inl h1)
    · rcases g c h1 with h2 | h2
      · exact S.ge c (.inr (.inl h2))
      · omega
    · exact S.ge c (.inr (.inr h1))
  · rcases g c h2 with h3 | h3
    · exact S.hf c h1 h3
    · have := S.oh.blk_lt h1; omega
  · rcases g c h1 with h3 | h3
    · exact S.fu c h3 h2
    · have := S.ou.blk_lt h2; omega
  · have hpr := S.pr c hc
    rcases hx with h1 | h1 | h1
    · exact hpr.2.2 (.inl h1)
    · rcases g c h1 with h3 | h3
      · exact hpr.2.2 (.inr (.inl h3))
      · omega
    · exact hpr.2.2 (.inr (.inr h1))
theorem St.newU (S : St P h0 h t X s hp hc fp fc up uc hl fl ul) (o : Own h' hp' hl'.length hc' 1 (hl'.map (.int .u64 ·))) (f : Fr (inBlk up) h h') (g : ∀ c, inBlk hp' c → inBlk up c ∨ h.size ≤ c) :
    St P h0 h' t X s hp hc fp fc hp' hc' hl fl hl' ∧ Fr (fun c => ¬ P c) h h' := by
  have z := S.upf.fr.1
  refine ⟨⟨S.ct.frame f (fun y hy hb => S.ap y hy (.inr (.inr hb))), ⟨S.upf.fr.fresh f (fun c hc => S.ge c (.inr (.inr hc))), S.upf.ge⟩, S.oh.frame f (fun c hc hx => S.hu c hc hx), S.of.frame f (fun c hc hx => S.fu c hc hx), o, fun c hc hx => ?_, fun c hx => ?_, S.hf, fun c h1 h2 => ?_, fun c h1 h2 => ?_, fun c hc => ⟨Nat.lt_of_lt_of_le (S.pr c hc).1 f.1, (S.pr c hc).2.1, fun hx => ?_⟩⟩, f.mono fun c _ hb hP => (S.pr c hP).2.2 (.inr (.inr hb))⟩
  · rcases hx with h1 | h1 | h1
    · exact S.ap c hc (.inl h1)
    · exact S.ap c hc (.inr (.inl h1))
    · rcases g c h1 with h2 | h2
      · exact S.ap c hc (.inr (.inr h2))
      · have := S.ct.lt c hc; omega
  · rcases hx with h1 | h1 | h1
    · exact S.ge c (.inl h1)
    · exact S.ge c (.inr (.inl h1))
    · rcases g c h1 with h2 | h2
      · exact S.ge c (.inr (.inr h2))
      · omega
  · rcases g c h2 with h3 | h3
    · exact S.hu c h1 h3
    · have := S.oh.blk_lt h1; omega
  · rcases g c h2 with h3 | h3
    · exact S.fu c h1 h3
    · have := S.of.blk_lt h1; omega
  · have hpr := S.pr c hc
    rcases hx with h1 | h1 | h1
    · exact hpr.2.2 (.inl h1)
    · exact hpr.2.2 (.inr (.inl h1))
    · rcases g c h1 with h3 | h3
      · exact hpr.2.2 (.inr (.inr h3))
      · omega
theorem own_at {kk : IntKind} {p : Option Addr} {c i n : Nat} {ls : List Int} {v j : Int} {K : Int → Prop} (o : Own h p n c 1 (ls.map (.int kk ·))) (hn : n = ls.length) (hi : ls[i]? = some v) (ej : j = (i : Int)) (hk : K v) :
    ((0 : Int) ≤ j ∧ j < ((n : Nat) : Int)) ∧ onSome p fun a => ∃ t : Int, hcell h (a.add (Int.toNat j * 1)) = some (.int kk t) ∧ K t := by
  subst ej
  have hl := (List.getElem?_eq_some_iff.1 hi).1
  obtain ⟨ab, ao, e⟩ := o.addr (by omega)
  subst e
  refine ⟨⟨by omega, by omega⟩, onSome_some.2 ⟨v, ?_, hk⟩⟩
  rw [Int.toNat_natCast, Nat.mul_one]
  exact o.cell (by rw [List.getElem?_map, hi]; rfl)
theorem own_set {kk : IntKind} {p : Option Addr} {c i n : Nat} {ls : List Int} {v j : Int} {K : Heap → Prop} (o : Own h p n c 1 (ls.map (.int kk ·))) (hn : n = ls.length) (hi : i < ls.length) (ej : j = (i : Int))
    (hk : ∀ h', Own h' p (ls.set i v).length c 1 ((ls.set i v).map (.int kk ·)) → Fr (inBlk p) h h' → K h') :
    ((0 : Int) ≤ j ∧ j < ((n : Nat) : Int)) ∧ onSome p fun a => StoreP h (a.add (Int.toNat j * 1)) (.int kk v) K := by
  subst ej hn
  obtain ⟨ab, ao, e⟩ := o.addr (by omega)
  subst e
  refine ⟨⟨by omega, by omega⟩, onSome_some.2 ?_⟩
  rw [Int.toNat_natCast, Nat.mul_one]
  refine o.store (by rw [List.length_map]; exact hi) fun h' o' s' q' => hk h' ?_ ⟨by omega, fun y _ hn => q' y hn⟩
  rw [List.length_set, List.map_set]
  exact o'
end Cps
end Go.Proofs.Ytgccegnmggjkjaa
