/- The rules at batches of transactions that write one block each (for the law 'TxnFails'). -/
import Derived.Test.YtbolgpjcmchfoaaGreatLe
namespace Go.Proofs.YtbolgpjcmchfoaaGreat
open Go Go.Vc Go.Sl Go.Mo
theorem filterMap_all {α β : Type} {g : α → Option β} {f : α → β} : ∀ (l : List α), (∀ x ∈ l, g x = some (f x)) → l.filterMap g = l.map f
  | [], _ => rfl
  | x :: r, h => by
    rw [List.filterMap_cons, h x (by simp), List.map_cons, filterMap_all r fun y hy => h y (by simp [hy])]
theorem formL_ones : ∀ (l : List Tx) (n : Nat), (∀ t ∈ l, t.puts.length = 1) → n ≤ 8 → formL l n n = (min (n + l.length) 8 : Nat)
  | [], n, _, h => by simp only [formL, List.length_nil]; omega
  | t :: r, n, hp, h => by
    simp only [formL]
    have h1 := hp t (by simp)
    split
    · simp only [List.length_cons]; omega
    · have ih := formL_ones r (n + 1) (fun t ht => hp t (by simp [ht])) (by omega)
      rw [h1, show (n : Int) + ((1 : Nat) : Int) = ((n + 1 : Nat) : Int) from by omega, show (n : Int) + 1 = ((n + 1 : Nat) : Int) from by omega, ih]
      simp only [List.length_cons]; omega
/-- What ends with a code, at one time all of them. -/
theorem fold_fail {code : Int} (hc : code ≠ 0) : ∀ (l : List (Int × Tx)) (M : Mgr), (l.foldl (doneOne code) M).m = M.m ∧ (l.foldl (doneOne code) M).last = M.last ∧
    ∀ h, lkp (l.foldl (doneOne code) M).all h = if h ∈ l.map Prod.fst then (lkp M.all h).map (fun T => { T with state := 4, code := code, time := 0 }) else lkp M.all h
  | [], M => ⟨rfl, rfl, fun h => by simp⟩
  | x :: r, M => by
    obtain ⟨h1, h2, h3⟩ := fold_fail hc r (doneOne code M x)
    have hd : doneOne code M x = M.end_ x.1 4 code := by unfold doneOne; rw [if_pos hc]
    have he : (M.end_ x.1 4 code).last = M.last ∧ ∀ h, lkp (M.end_ x.1 4 code).all h = if h = x.1 then (lkp M.all h).map (fun T => { T with state := 4, code := code, time := 0 }) else lkp M.all h := by
      unfold Mgr.end_
      split
      · rename_i e
        refine ⟨rfl, fun h => ?_⟩
        split
        · rename_i e'; subst e'; rw [e]; rfl
        · rfl
      · rename_i T e
        refine ⟨rfl, fun h => ?_⟩
        simp only [lkp_put]
        split
        · rename_i e'; subst e'; rw [e]; rfl
        · rfl
    simp only [List.foldl_cons]
    refine ⟨h1.trans (by rw [hd]; exact (end_rest M x.1 4 code).1), h2.trans (by rw [hd]; exact he.1), fun h => ?_⟩
    rw [h3 h, hd, he.2 h]
    simp only [List.map_cons, List.mem_cons]
    by_cases e1 : h = x.1
    · by_cases e2 : h ∈ r.map Prod.fst
      · rw [if_pos e2, if_pos e1, if_pos (.inl e1)]
        cases lkp M.all h <;> rfl
      · rw [if_neg e2, if_pos e1, if_pos (.inl e1)]
    · by_cases e2 : h ∈ r.map Prod.fst
      · rw [if_pos e2, if_neg e1, if_pos (.inr e2)]
      · rw [if_neg e2, if_neg e1, if_neg (by simp only [e1, false_or]; exact e2)]
/-- What is committed one block each, blocks and times rising: each makes a block of its own. -/
theorem fold_apply : ∀ (l : List (Int × Tx)) (M : Mgr) (t0 : Int), M.m.last < t0 → (∀ q ∈ M.m.vers, q.1 < t0 - 1) → (∀ i (hi : i < l.length), l[i].2.time = t0 + i ∧ ∃ d, l[i].2.puts = [⟨t0 + i - 1, d⟩] ∧ d.length = 40) → 1 ≤ t0 → t0 + l.length ≤ M.m.blocks + 1 → M.m.blocks ≤ 1000 →
    (l.foldl (doneOne 0) M).m.vers.length = M.m.vers.length + l.length
  | [], M, _, _, _, _, _, _, _ => rfl
  | x :: r, M, t0, h1, h2, h3, h4, h5, h6 => by
    obtain ⟨ht, d, hp, hd⟩ := h3 0 (by simp)
    simp only [List.getElem_cons_zero] at ht hp
    simp only [List.length_cons] at h5 ⊢
    have ha : (M.m.apply x.2).1 = { M.m with vers := addVer x.2.time M.m.vers ⟨t0 - 1, d⟩, last := x.2.time } := by
      unfold XMap.apply
      rw [if_neg (by omega), hp]
      have hr : riseM [(⟨t0 + (0 : Nat) - 1, d⟩ : Put)] = true := by simp [riseM]
      have hi : inB M.m (t0 + (0 : Nat) - 1) = true := by simp [inB]; omega
      rw [if_neg (by rw [hr]; simp), if_neg (by simp only [List.headD_cons, List.getLastD_cons, List.getLastD_nil]; rw [hi]; simp), if_neg (by simp [badLen, hd])]
      simp only [List.foldl_cons, List.foldl_nil]
      rw [show t0 + (0 : Nat) - 1 = t0 - 1 from by omega]
    have hm : (doneOne 0 M x).m = { M.m with vers := addVer x.2.time M.m.vers ⟨t0 - 1, d⟩, last := x.2.time } := by
      unfold doneOne
      rw [if_neg (by simp), (end_rest _ _ _ _).1, ha]
    have hno : lkp M.m.vers (t0 - 1) = none := lkp_not fun q hq => by have := h2 q hq; omega
    have hv : (addVer x.2.time M.m.vers ⟨t0 - 1, d⟩).length = M.m.vers.length + 1 := by
      unfold addVer; simp only; rw [put_length, hno]; rfl
    have ih := fold_apply r (doneOne 0 M x) (t0 + 1) (by rw [hm]; simp only; omega) (fun q hq => by
      rw [hm] at hq
      unfold addVer at hq
      rcases mem_put hq with e | e
      · subst e; simp only; omega
      · have := h2 q e; omega) (fun i hi => by
      obtain ⟨a, d', b, c⟩ := h3 (i + 1) (by simp; omega)
      simp only [List.getElem_cons_succ] at a b
      exact ⟨by rw [a]; omega, d', by rw [b]; congr 2; omega, c⟩) (by omega) (by rw [hm]; simp only; omega) (by rw [hm]; exact h6)
    simp only [List.foldl_cons]
    rw [ih, hm]
    simp only [hv]; omega
theorem dump_length (M : XMap) : M.dump.length = M.vers.length := by simp [XMap.dump, sortI_length]
/-- After i transactions, of which each wrote one block of its own and waits. -/
structure InvF (i : Nat) (M : Mgr) : Prop extends Inv1 20 i M where
  last0 : M.last = 0
  given : M.given = i
  num : M.num = 0
  queue : M.queue = (List.range i).map fun j => ((j + 1 : Nat) : Int)
  trn : ∀ j, j < i → ∃ T, lkp M.all ((j + 1 : Nat) : Int) = some T ∧ T.state = 2 ∧ T.time = ((j + 1 : Nat) : Int) ∧ T.buf.data = [((j : Int), blockB 40 j)]
theorem invF_new : InvF 0 (Mgr.new 20 0) := ⟨inv1_new _ _, rfl, rfl, rfl, rfl, fun j hj => by omega⟩
theorem invF_next {i : Nat} {M : Mgr} (I : InvF i M) (hi : i ≤ 14) : InvF (i + 1) ((mid1 M i (blockB 40 i)).commit (i + 1)).1 ∧ ((mid1 M i (blockB 40 i)).commit (i + 1)).2 = 0 := by
  have hdl : (blockB 40 (i : Int)).length = 40 := blockB_length _ _
  have hn := inv1_next (d := blockB 40 i) I.toInv1 (by unfold lbaOk; omega) hdl
  have hc := inv1_commit (d := blockB 40 i) I.toInv1 (by unfold lbaOk; omega)
  have hg := I.given
  rw [if_neg (by omega)] at hc
  rw [hc] at hn ⊢
  refine ⟨⟨hn, I.last0, by simp only; omega, I.num, ?_, fun j hj => ?_⟩, rfl⟩
  · simp only [I.queue, List.range_succ, List.map_append, List.map_cons, List.map_nil]
    congr 2
  · simp only [hpp]
    rw [lkp_put]
    split
    · rename_i e
      obtain rfl : j = i := by omega
      exact ⟨_, rfl, rfl, by simp only [one1]; omega, rfl⟩
    · obtain ⟨T, hT, h⟩ := I.trn j (by omega)
      exact ⟨T, hT, h⟩
theorem invF_waiting {n : Nat} {M : Mgr} (I : InvF n M) : M.waiting = (List.range n).map fun j => ⟨((j + 1 : Nat) : Int), [⟨(j : Int), blockB 40 j⟩]⟩ := by
  unfold Mgr.waiting
  rw [I.queue, List.filterMap_map]
  refine filterMap_all _ fun j hj => ?_
  obtain ⟨T, hT, _, h2, h3⟩ := I.trn j (List.mem_range.1 hj)
  simp only [Function.comp_def, hT, Option.map_some, h2, puts_one h3]
end Go.Proofs.YtbolgpjcmchfoaaGreat
