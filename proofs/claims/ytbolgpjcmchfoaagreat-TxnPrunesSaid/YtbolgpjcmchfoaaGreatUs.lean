/- What pruning leaves: reads at times not below it, the last versions, counts; reading twice. -/
import Derived.Test.YtbolgpjcmchfoaaGreatUq
namespace Go.Proofs.YtbolgpjcmchfoaaGreat
open Go Go.Vc Go.Sl Go.Mo
theorem headDropWhile {α : Type} {p : α → Bool} {a b : List α} {y : α} (hy : y ∈ a) (hp : p y = false) : ((a ++ b).dropWhile p).head? = (a.dropWhile p).head? := by
  induction a with
  | nil => simp at hy
  | cons x r ih =>
    rw [List.cons_append, List.dropWhile_cons, List.dropWhile_cons]
    split
    · rename_i hx
      rcases List.mem_cons.1 hy with e | e
      · subst e; rw [hx] at hp; cases hp
      · exact ih e
    · rfl
theorem valAtHead (l : List Put) (s : Int) : valAt l s = ((upTo l s).head?.map Put.data).getD zeros := by
  unfold valAt
  cases upTo l s <;> rfl
theorem dropWhileNot {α : Type} {p : α → Bool} {l : List α} {x : α} (h : (l.dropWhile p).head? = some x) : p x = false := by
  induction l with
  | nil => simp at h
  | cons y r ih =>
    rw [List.dropWhile_cons] at h
    split at h
    · exact ih h
    · rename_i hy
      simp only [List.head?_cons, Option.some.injEq] at h
      subst h; simpa using hy
theorem valAtPruned {l : List Put} {h s : Int} (hs : h ≤ s) : valAt (pruned h l) s = valAt l s := by
  rw [valAtHead, valAtHead]
  cases hu : upTo l h with
  | nil => rw [pruned_eq, hu]; rfl
  | cons v r =>
    obtain ⟨hi, hv⟩ := upTo_head hu
    have hvs : v.lba ≤ h := by
      have h1 : (l.reverse.dropWhile fun x => decide (h < x.lba)).head? = some v := by
        have : (upTo l h).head? = some v := by rw [hu]; rfl
        exact this
      have := dropWhileNot h1
      simpa using this
    have hd : pruned h l = l.drop r.length := by rw [pruned_eq, hu]; simp
    rw [hd]
    have hsplit : l.reverse = (l.drop r.length).reverse ++ (l.take r.length).reverse := by rw [← List.reverse_append, List.take_append_drop]
    have hmem : v ∈ (l.drop r.length).reverse := by
      rw [List.mem_reverse, List.drop_eq_getElem_cons hi, hv]; simp
    unfold upTo
    rw [hsplit, headDropWhile hmem (by simp; omega)]
theorem getPrune {X : XMap} {h k s : Int} (hs : h ≤ s) : (X.prune h).1.get k s = X.get k s := by
  unfold XMap.get XMap.prune
  simp only
  rw [versOf_on2 (by simp [pruned]), valAtPruned hs]
/-- Pruned once more at the same time, nothing goes. -/
theorem upTo_pruned (l : List Put) (h : Int) : (upTo (pruned h l) h).length ≤ 1 := by
  have key : ∀ (p : Put → Bool) (r : List Put), ((r.take (r.length - ((r.dropWhile p).length - 1))).dropWhile p).length ≤ 1 := by
    intro p r
    induction r with
    | nil => simp
    | cons x r ih =>
      rw [List.dropWhile_cons]
      split
      · rename_i hx
        have : (r.dropWhile p).length ≤ r.length := (List.dropWhile_sublist p).length_le
        have e : (x :: r).length - ((r.dropWhile p).length - 1) = (r.length - ((r.dropWhile p).length - 1)) + 1 := by
          simp only [List.length_cons]; omega
        rw [e, List.take_succ_cons, List.dropWhile_cons, if_pos hx]
        exact ih
      · rename_i hx
        have e : (x :: r).length - ((x :: r).length - 1) = 1 := by simp only [List.length_cons]; omega
        rw [e]
        simp [List.dropWhile_cons]
        split <;> simp
  have h1 := key (fun v => decide (h < v.lba)) l.reverse
  have e : (pruned h l).reverse = l.reverse.take (l.reverse.length - ((l.reverse.dropWhile fun v => decide (h < v.lba)).length - 1)) := by
    unfold pruned upTo
    rw [List.reverse_drop, List.length_reverse]
  unfold upTo
  rw [e]; exact h1
theorem prune_again (X : XMap) (t : Int) : ((X.prune t).1.prune t).2 = 0 := by
  unfold XMap.prune
  simp only
  have : ∀ vs : List (Int × List Put), ((on2 (pruned t) vs).map fun q => (upTo q.2 t).length - 1).sum = 0 := by
    intro vs
    induction vs with
    | nil => rfl
    | cons q r ih =>
      have := upTo_pruned q.2 t
      simp only [on2, List.map_cons, List.sum_cons] at ih ⊢
      rw [ih]; omega
  rw [this]; rfl
theorem prune_versions {X : XMap} (h : VOk X) (t : Int) : (X.prune t).1.versions = X.versions - (X.prune t).2 := by
  have h1 := prune_count h t
  rw [← flatV_prune h t, flatV_length h, flatV_length (vok_prune h t)] at h1
  omega
theorem getLastD_drop {α : Type} (d : α) (l : List α) (n : Nat) (h : n < l.length) : (l.drop n).getLastD d = l.getLastD d := by
  rw [List.getLastD_eq_getLast?, List.getLastD_eq_getLast?, List.getLast?_drop, if_neg (by omega)]
theorem prune_dump {X : XMap} (h : VOk X) (h0 : ∀ q ∈ X.vers, 0 < q.2.length) (t : Int) : (X.prune t).1.dump = X.dump := by
  have e : (X.prune t).1.vers = on2 (pruned t) X.vers := rfl
  unfold XMap.dump
  have e2 : (on2 (pruned t) X.vers).map Prod.fst = X.vers.map Prod.fst := by unfold on2; rw [List.map_map]; rfl
  rw [e, e2]
  refine List.map_congr_left fun k hk => ?_
  have hk' : k ∈ X.vers.map Prod.fst := (sortI_perm _).mem_iff.1 hk
  obtain ⟨q, hq, rfl⟩ := List.mem_map.1 hk'
  rw [versOf_on2 (by simp [pruned]), versOf_of h.1 hq]
  have h1 := h0 q hq
  have h2 := upTo_length_le q.2 t
  unfold pruned
  rw [getLastD_drop _ _ _ (by omega)]
/-! ### Reading twice -/
def rdT (X : XMap) (e : Ext) (T : Trn) : Trn := if T.state = 1 then { T with view := (T.view.read X T.buf e).1 } else T
def rdB (X : XMap) (e : Ext) (T : Trn) : List UInt8 := if T.state = 1 then (T.view.read X T.buf e).2.1 else []
def rdAt (M : Mgr) (e : Ext) (k : Int) : List UInt8 :=
  match lkp M.all k with
  | none => []
  | some T => rdB M.m e T
structure After (e : Ext) (M0 : Mgr) (j : Nat) (M : Mgr) : Prop where
  m : M.m = M0.m
  book : M.book = M0.book
  last : M.last = M0.last
  queue : M.queue = M0.queue
  all : ∀ k, lkp M.all k = if 1 ≤ k ∧ k ≤ j then (lkp M0.all k).map (rdT M0.m e) else lkp M0.all k
theorem after_0 (e : Ext) (M : Mgr) : After e M 0 M := ⟨rfl, rfl, rfl, rfl, fun k => by rw [if_neg (by omega)]⟩
theorem after_step {e : Ext} {M0 M : Mgr} {j : Nat} (h : After e M0 j M) : After e M0 (j + 1) (M.readE ((j : Int) + 1) e).1 ∧ (M.readE ((j : Int) + 1) e).2.1 = rdAt M0 e ((j : Int) + 1) := by
  have hl := h.all ((j : Int) + 1)
  rw [if_neg (by omega)] at hl
  have same : ∀ N : Mgr, N.m = M.m → N.book = M.book → N.last = M.last → N.queue = M.queue → (∀ k, k ≠ (j : Int) + 1 → lkp N.all k = lkp M.all k) → lkp N.all ((j : Int) + 1) = (lkp M0.all ((j : Int) + 1)).map (rdT M0.m e) → After e M0 (j + 1) N := fun N a b c d f g =>
    ⟨a.trans h.m, b.trans h.book, c.trans h.last, d.trans h.queue, fun k => by
      by_cases e1 : k = (j : Int) + 1
      · subst e1
        rw [if_pos (by omega), g]
      · rw [f k e1, h.all k]
        by_cases e2 : 1 ≤ k ∧ k ≤ (j : Int)
        · rw [if_pos e2, if_pos (by omega)]
        · rw [if_neg e2, if_neg (by omega)]⟩
  unfold Mgr.readE rdAt Mgr.opn
  rw [hl]
  cases h0 : lkp M0.all ((j : Int) + 1) with
  | none => exact ⟨same M rfl rfl rfl rfl (fun _ _ => rfl) (by rw [hl, h0]; rfl), rfl⟩
  | some T =>
    simp only
    by_cases hs : T.state = 1
    · rw [if_pos hs]
      refine ⟨same _ rfl rfl rfl rfl (fun k hk => by simp only [lkp_put]; rw [if_neg hk]) ?_, ?_⟩
      · simp only [lkp_put, if_true]
        rw [h0, Option.map_some, h.m]
        unfold rdT; rw [if_pos hs]
      · unfold rdB
        rw [if_pos hs, h.m]
    · rw [if_neg hs]
      refine ⟨same M rfl rfl rfl rfl (fun _ _ => rfl) ?_, ?_⟩
      · rw [hl, h0, Option.map_some]
        unfold rdT; rw [if_neg hs]
      · unfold rdB
        rw [if_neg hs]
/-- Read again after the pruning, one sees the same. -/
theorem rdB_again {X : XMap} {e : Ext} {T : Trn} {t : Int} (nf : NF T.view.set.l) (ht : T.state = 1 → t ≤ T.view.at_) : rdB (X.prune t).1 e (rdT X e T) = rdB X e T := by
  by_cases hs : T.state = 1
  · have hT : rdT X e T = { T with view := (T.view.read X T.buf e).1 } := by unfold rdT; rw [if_pos hs]
    rw [hT]
    unfold rdB
    simp only
    rw [if_pos hs, if_pos hs]
    have hw : within (X.prune t).1 e = within X e := rfl
    by_cases a : e.len < 1 ∨ 16 < e.len
    · unfold View.read; rw [if_pos a, if_pos a]
    by_cases b : within X e = false
    · unfold View.read; rw [if_neg a, if_neg a, hw, if_pos b, if_pos b]
    by_cases c : (T.view.set.add [e]).2 ≠ 0
    · have h1 : T.view.read X T.buf e = (T.view, ([], 7)) := by unfold View.read; rw [if_neg a, if_neg b, if_pos c]
      rw [h1]
      unfold View.read; rw [if_neg a, hw, if_neg b, if_pos c]
    · have h1 : T.view.read X T.buf e = ({ T.view with set := (T.view.set.add [e]).1, reads := T.view.reads ++ (blocksOf e).map (seenB X T.buf T.view.at_) }, ((blocksOf e).flatMap fun k => (seenB X T.buf T.view.at_ k).data, 0)) := by unfold View.read; rw [if_neg a, if_neg b, if_neg c]
      rw [h1]
      have c2 : ¬ ((T.view.set.add [e]).1.add [e]).2 ≠ 0 := by rw [add_again nf (by omega)]; simp
      unfold View.read
      rw [if_neg a, hw, if_neg b]
      simp only
      rw [if_neg c2]
      simp only
      congr 1
      funext k
      unfold seenB
      cases lkp T.buf.data k with
      | some d => rfl
      | none => simp only; rw [getPrune (ht hs)]
  · unfold rdB rdT
    simp only [if_neg hs]
end Go.Proofs.YtbolgpjcmchfoaaGreat
