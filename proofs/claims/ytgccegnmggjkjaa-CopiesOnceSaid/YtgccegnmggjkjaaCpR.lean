/-
  What is proved here: CopiesOnce's lists (holder, fate, until) against a table: plain facts. No condition.
-/
import Derived.Test.YtgccegnmggjkjaaCpP2
set_option maxRecDepth 100000
namespace Go.Proofs.Ytgccegnmggjkjaa
open Go.Den Go.Heapq
namespace Cps
open Eid Alarm Fld
variable {s s' : CF} {hl fl ul : List Int} {ks : List Int} {now : Int}

structure RlG (s : CF) (hl fl ul : List Int) (ks : List Int) : Prop where
  lh : hl.length + 1 = s.next
  lf : fl.length + 1 = s.next
  lu : ul.length + 1 = s.next
  nd : ks.Nodup
  ok : ∀ k ∈ ks, 1 ≤ k ∧ k ≤ (fl.length : Int) ∧ fl[(k - 1).toNat]? = some 0 ∧ ∀ z ∈ s.L, (z.num : Int) ≠ k
  a : ∀ z ∈ s.L, fl[z.num - 1]? = some 0 ∧ hl[z.num - 1]? = some z.ses ∧ (z.ses ≠ 0 → ul[z.num - 1]? = some (z.dl : Int))
  b : ∀ k, k < fl.length → (∀ z ∈ s.L, z.num ≠ k + 1) → ((k + 1 : Nat) : Int) ∉ ks → (∃ f, f ≠ 0 ∧ fl[k]? = some f) ∧ hl[k]? = some 0
theorem get_set {l : List Int} {i j : Nat} {v w : Int} (h : l[j]? = some w) : (l.set i v)[j]? = some (if i = j then v else w) := by
  rw [List.getElem?_set]
  have hj := (List.getElem?_eq_some_iff.1 h).1
  by_cases e : i = j
  · subst e; rw [if_pos rfl, if_pos rfl, if_pos hj]
  · rw [if_neg e, if_neg e]; exact h
theorem RlG.one {k : Int} (G : RlG s hl fl ul (k :: ks)) (ok : okC s) : RlG s (hl.set (k - 1).toNat 0) (fl.set (k - 1).toNat 2) ul ks := by
  have hk := G.ok k (by simp)
  have nd := List.nodup_cons.1 G.nd
  have hlf := G.lf
  have hlh := G.lh
  refine ⟨by rw [List.length_set]; exact G.lh, by rw [List.length_set]; exact G.lf, G.lu, nd.2, fun j hj => ?_, fun z hz => ?_, fun j hj hz hn => ?_⟩
  · have h1 := G.ok j (List.mem_cons_of_mem _ hj)
    have hne : j ≠ k := fun e => nd.1 (e ▸ hj)
    refine ⟨h1.1, by rw [List.length_set]; exact h1.2.1, ?_, h1.2.2.2⟩
    rw [get_set h1.2.2.1, if_neg (by omega)]
  · have h1 := G.a z hz
    have h2 := hk.2.2.2 z hz
    have h3 := ok.bd z hz
    refine ⟨by rw [get_set h1.1, if_neg (by omega)], by rw [get_set h1.2.1, if_neg (by omega)], h1.2.2⟩
  · rw [List.length_set] at hj
    by_cases e : ((j + 1 : Nat) : Int) = k
    · have e2 : (k - 1).toNat = j := by omega
      rw [e2]
      refine ⟨⟨2, by decide, ?_⟩, ?_⟩
      · rw [List.getElem?_set, if_pos rfl, if_pos hj]
      · rw [List.getElem?_set, if_pos rfl, if_pos (by omega)]
    · obtain ⟨⟨f, h1, h2⟩, h3⟩ := G.b j hj hz (fun h => (List.mem_cons.1 h).elim e hn)
      refine ⟨⟨f, h1, ?_⟩, ?_⟩
      · rw [get_set h2, if_neg (by omega)]
      · rw [get_set h3, if_neg (by omega)]
theorem RlG.add (G : RlG s hl fl ul []) (ok : okC s) {x : Ev} {d : List UInt8} {till : Nat} (he : addE s x d till = 0) : RlG (addF s x d till) (hl ++ [0]) (fl ++ [0]) (ul ++ [0]) [] := by
  unfold addF
  rw [if_pos he]
  have h1 := G.lh
  have h2 := G.lf
  have h3 := G.lu
  refine ⟨by simp; omega, by simp; omega, by simp; omega, List.nodup_nil, fun k hk => by simp at hk, fun z hz => ?_, fun k hk hz _ => ?_⟩
  · rcases List.mem_append.1 hz with hz | hz
    · have g := G.a z hz
      have b := ok.bd z hz
      rw [List.getElem?_append_left (by omega), List.getElem?_append_left (by omega), List.getElem?_append_left (by omega)]
      exact g
    · obtain rfl := List.mem_singleton.1 hz
      dsimp only
      refine ⟨?_, ?_, fun hn => absurd rfl hn⟩
      · rw [List.getElem?_append_right (by omega), show s.next - 1 - fl.length = 0 by omega]; rfl
      · rw [List.getElem?_append_right (by omega), show s.next - 1 - hl.length = 0 by omega]; rfl
  · rw [List.length_append, List.length_singleton] at hk
    have hk' : k < fl.length := by
      have := hz ⟨s.next, x, d, till, 0, 0⟩ (List.mem_append.2 (.inr (List.mem_singleton.2 rfl)))
      dsimp only at this
      omega
    obtain ⟨⟨f, g1, g2⟩, g3⟩ := G.b k hk' (fun z h => hz z (List.mem_append.2 (.inl h))) (by simp)
    refine ⟨⟨f, g1, ?_⟩, ?_⟩
    · rw [List.getElem?_append_left (by omega)]; exact g2
    · rw [List.getElem?_append_left (by omega)]; exact g3
theorem RlG.set (G : RlG s hl fl ul []) (ok : okC s) (O : Ord s) {z : Cp} (hz : z ∈ s.L) {a : Int} {b : Nat} {ul' : List Int} (hu : ul'.length = ul.length) (hL : s'.L = setC s.L z.num a b) (hn : s'.next = s.next) (h0 : a ≠ 0 → ul'[z.num - 1]? = some (b : Int)) (h1 : ∀ k, k ≠ z.num - 1 → ul'[k]? = ul[k]?) :
    RlG s' (hl.set (z.num - 1) a) fl ul' [] := by
  have lz := ok.bd z hz
  refine ⟨by rw [List.length_set, hn]; exact G.lh, by rw [hn]; exact G.lf, by rw [hu, hn]; exact G.lu, List.nodup_nil, fun k hk => by simp at hk, fun y hy => ?_, fun k hk hy hq => ?_⟩
  · rw [hL, setC_mem] at hy
    obtain ⟨u, hu', rfl⟩ := hy
    have g := G.a u hu'
    have bu := ok.bd u hu'
    by_cases e : u.num = z.num
    · rw [if_pos e]
      dsimp only
      rw [e] at g ⊢
      exact ⟨g.1, by rw [get_set g.2.1, if_pos rfl], h0⟩
    · rw [if_neg e]
      refine ⟨g.1, by rw [get_set g.2.1, if_neg (by omega)], fun hs => ?_⟩
      rw [h1 _ (by omega)]; exact g.2.2 hs
  · have hne : ∀ y ∈ s.L, y.num ≠ k + 1 := fun y hy' => by
      have := hy _ (by rw [hL]; exact setC_mem.2 ⟨y, hy', rfl⟩)
      split at this <;> exact this
    obtain ⟨g1, g2⟩ := G.b k hk hne hq
    refine ⟨g1, ?_⟩
    have := hne z hz
    rw [get_set g2, if_neg (by omega)]
theorem RlG.ack (G : RlG s hl fl ul []) (ok : okC s) (O : Ord s) {z : Cp} (hz : z ∈ s.L) (hL : s'.L = delL s.L (z.num : Int)) (hn : s'.next = s.next) :
    RlG s' (hl.set (z.num - 1) 0) (fl.set (z.num - 1) 1) ul [] := by
  have lz := ok.bd z hz
  have gz := G.a z hz
  have lf := G.lf
  have lh := G.lh
  refine ⟨by rw [List.length_set, hn]; exact G.lh, by rw [List.length_set, hn]; exact G.lf, by rw [hn]; exact G.lu, List.nodup_nil, fun k hk => by simp at hk, fun y hy => ?_, fun k hk hy hq => ?_⟩
  · rw [hL, delL_mem] at hy
    have g := G.a y hy.1
    have bu := ok.bd y hy.1
    have := hy.2
    exact ⟨by rw [get_set g.1, if_neg (by omega)], by rw [get_set g.2.1, if_neg (by omega)], g.2.2⟩
  · rw [List.length_set] at hk
    by_cases e : z.num = k + 1
    · have e2 : z.num - 1 = k := by omega
      rw [e2]
      refine ⟨⟨1, by decide, ?_⟩, ?_⟩
      · rw [List.getElem?_set, if_pos rfl, if_pos hk]
      · rw [List.getElem?_set, if_pos rfl, if_pos (by omega)]
    · obtain ⟨⟨f, g1, g2⟩, g3⟩ := G.b k hk (fun y hy' e2 => by
        have hne : (y.num : Int) ≠ (z.num : Int) := by omega
        exact hy y (by rw [hL]; exact delL_mem.2 ⟨hy', hne⟩) e2) hq
      refine ⟨⟨f, g1, ?_⟩, ?_⟩
      · rw [get_set g2, if_neg (by omega)]
      · rw [get_set g3, if_neg (by omega)]
theorem RlG.drop (G : RlG s hl fl ul []) (ok : okC s) (O : Ord s) (x : Ev) : RlG (dropF s x) hl fl ul ((ofL s.L x).map (fun z => (z.num : Int))) := by
  have nx : (dropF s x).next = s.next := by unfold dropF; rw [fold_gone]
  have lf := G.lf
  refine ⟨by rw [nx]; exact G.lh, by rw [nx]; exact G.lf, by rw [nx]; exact G.lu, of_nodup O x, fun k hk => ?_, fun z hz => G.a z ((drop_mem O).1 hz).1, fun k hk hz hn => ?_⟩
  · obtain ⟨z, hz, rfl⟩ := List.mem_map.1 hk
    have hz' := List.mem_filter.1 hz
    have b := ok.bd z hz'.1
    refine ⟨by omega, by omega, ?_, fun y hy e => ?_⟩
    · rw [show ((z.num : Int) - 1).toNat = z.num - 1 by omega]; exact (G.a z hz'.1).1
    · have hy' := (drop_mem O).1 hy
      obtain rfl := O.inj hy'.1 hz'.1 (by omega)
      exact hy'.2 (by simpa using hz'.2)
  · refine G.b k hk (fun z hz' e => ?_) (by simp)
    by_cases ex : z.e = x
    · exact hn (by rw [← e]; exact (of_mem O hz').2 ex)
    · exact hz z ((drop_mem O).2 ⟨hz', ex⟩) e
def offH (ul : List Int) (now : Int) (i : Nat) (v : Int) : Int := if v ≠ 0 ∧ (ul[i]?.getD 0) ≤ now then 0 else v
theorem RlG.pass {hl' : List Int} (G : RlG s hl fl ul []) (ok : okC s) (O : Ord s) (now : Int) (hlen : hl'.length = hl.length) (hh : ∀ i v, hl[i]? = some v → hl'[i]? = some (offH ul now i v)) :
    RlG (passF s now) hl' fl ul (keys (Alarm.due s.E1 now)) := by
  obtain ⟨_, pm, nx, _, _⟩ := pass_all ok O now
  have lf := G.lf
  refine ⟨by rw [nx, hlen]; exact G.lh, by rw [nx]; exact G.lf, by rw [nx]; exact G.lu, due_nodup O now, fun k hk => ?_, fun z hz => ?_, fun k hk hz hn => ?_⟩
  · obtain ⟨z, hz, rfl⟩ := due_in ok O hk
    have b := ok.bd z hz
    refine ⟨by omega, by omega, ?_, fun y hy e => ?_⟩
    · rw [show ((z.num : Int) - 1).toNat = z.num - 1 by omega]; exact (G.a z hz).1
    · obtain ⟨u, hu, ht, rfl⟩ := (pm y).1 hy
      have : (freeZ now u).num = u.num := by unfold freeZ; split <;> rfl
      obtain rfl := O.inj hu hz (by omega)
      have := (due_num ok O hu).1 hk
      omega
  · obtain ⟨u, hu, ht, rfl⟩ := (pm z).1 hz
    have g := G.a u hu
    have hn : (freeZ now u).num = u.num := by unfold freeZ; split <;> rfl
    rw [hn]
    refine ⟨g.1, ?_, fun hs => ?_⟩
    · rw [hh _ _ g.2.1]
      unfold offH freeZ
      by_cases h0 : u.ses = 0
      · simp [h0]
      · rw [g.2.2 h0, Option.getD_some]
        by_cases h1 : (u.dl : Int) ≤ now
        · rw [if_pos ⟨h0, h1⟩, if_pos ⟨h0, h1⟩]
        · rw [if_neg (fun h => h1 h.2), if_neg (fun h => h1 h.2)]
    · unfold freeZ at hs ⊢
      by_cases h1 : u.ses ≠ 0 ∧ (u.dl : Int) ≤ now
      · rw [if_pos h1] at hs; exact absurd rfl hs
      · rw [if_neg h1] at hs ⊢; exact g.2.2 hs
  · obtain ⟨g1, g2⟩ := G.b k hk (fun z hz' e => by
      by_cases ht : (z.till : Int) ≤ now
      · exact hn (by rw [← e]; exact (due_num ok O hz').2 ht)
      · refine hz (freeZ now z) ((pm _).2 ⟨z, hz', by omega, rfl⟩) ?_
        have : (freeZ now z).num = z.num := by unfold freeZ; split <;> rfl
        omega) (by simp)
    refine ⟨g1, ?_⟩
    rw [hh _ _ g2]
    unfold offH; simp
end Cps
end Go.Proofs.Ytgccegnmggjkjaa
