/- What a transaction sees is what was committed up to its begin, with its own writes over: plain; rows of shared bytes in memory. -/
import Derived.Test.YtbolgpjcmchfoaaGreatLp
namespace Go.Proofs.YtbolgpjcmchfoaaGreat
open Go Go.Vc Go.Sl Go.Mo
/-! ### What is read at a time -/
def nowF (f : Int → List UInt8) (l : List Put) : Int → List UInt8 := l.foldl (fun f p k => if k = p.lba then p.data else f k) f
theorem nowF_append (f : Int → List UInt8) (l m : List Put) : nowF f (l ++ m) = nowF (nowF f l) m := by unfold nowF; rw [List.foldl_append]
theorem nowF_congr {f g : Int → List UInt8} {P : Int → Prop} (h : ∀ k, P k → f k = g k) : ∀ (l : List Put) (k : Int), P k → nowF f l k = nowF g l k
  | l, k, hk => by
    induction l generalizing f g with
    | nil => exact h k hk
    | cons p r ih =>
      simp only [nowF, List.foldl_cons] at ih ⊢
      refine ih fun j hj => ?_
      split
      · rfl
      · exact h j hj
theorem valAt_snoc (l : List Put) (v : Put) (s : Int) : valAt (l ++ [v]) s = if s < v.lba then valAt l s else v.data := by
  unfold valAt
  rw [upTo_snoc]
  by_cases h : s < v.lba
  · rw [if_pos h, if_pos h]
  · rw [if_neg h, if_neg h]
theorem foldl_get {t s : Int} : ∀ (l : List Put) (vs : List (Int × List Put)) (k : Int), valAt (versOf (l.foldl (addVer t) vs) k) s = if s < t then valAt (versOf vs k) s else nowF (fun k => valAt (versOf vs k) s) l k
  | [], vs, k => by simp [nowF]
  | p :: r, vs, k => by
    rw [List.foldl_cons, foldl_get r (addVer t vs p) k]
    have h1 : ∀ j, valAt (versOf (addVer t vs p) j) s = if s < t then valAt (versOf vs j) s else if j = p.lba then p.data else valAt (versOf vs j) s := fun j => by
      unfold addVer
      rw [versOf_put]
      by_cases e : j = p.lba
      · rw [if_pos e, valAt_snoc, e]
        simp only [if_pos]
      · rw [if_neg e]
        simp [e]
    by_cases hs : s < t
    · rw [if_pos hs, if_pos hs, h1, if_pos hs]
    · rw [if_neg hs, if_neg hs]
      have : (fun j => valAt (versOf (addVer t vs p) j) s) = fun j => if j = p.lba then p.data else valAt (versOf vs j) s := funext fun j => by rw [h1, if_neg hs]
      rw [this]; rfl
theorem get_lt {X : XMap} {t : Tx} {k s : Int} (hs : s < t.time) : (X.apply t).1.get k s = X.get k s := by
  unfold XMap.get XMap.apply
  repeat' split
  all_goals first | rfl | (rw [foldl_get, if_pos hs])
theorem get_ge {X : XMap} {t : Tx} {k s : Int} (h0 : (X.apply t).2 = 0) (hs : t.time ≤ s) : (X.apply t).1.get k s = nowF (fun k => X.get k s) t.puts k := by
  unfold XMap.get
  unfold XMap.apply at h0 ⊢
  repeat' split at h0
  all_goals first | (simp at h0; done) | skip
  rename_i a b c d
  rw [if_neg a, if_neg b, if_neg c, if_neg d, foldl_get, if_neg (by omega)]
theorem upTo_all {l : List Put} {s : Int} (h : ∀ v ∈ l, v.lba ≤ s) : upTo l s = l.reverse := by
  unfold upTo
  cases e : l.reverse with
  | nil => rfl
  | cons v r =>
    have : v.lba ≤ s := h v (by rw [← List.mem_reverse, e]; simp)
    rw [List.dropWhile_cons, if_neg (by simp; omega)]
theorem get_top {X : XMap} (h : VOk X) {k s s' : Int} (hs : X.last ≤ s) (hs' : X.last ≤ s') : X.get k s = X.get k s' := by
  unfold XMap.get valAt
  have hv : ∀ v ∈ versOf X.vers k, v.lba ≤ X.last := fun v hv => by
    obtain ⟨q, hq, _, hv'⟩ := versOf_mem hv
    exact (h.2 q hq).2 v hv'
  rw [upTo_all fun v hv' => Int.le_trans (hv v hv') hs, upTo_all fun v hv' => Int.le_trans (hv v hv') hs']
theorem head_dropWhile {α : Type} {p : α → Bool} {a b : List α} {y : α} (hy : y ∈ a) (hp : p y = false) : ((a ++ b).dropWhile p).head? = (a.dropWhile p).head? := by
  induction a with
  | nil => simp at hy
  | cons x r ih =>
    rw [List.cons_append, List.dropWhile_cons, List.dropWhile_cons]
    split
    · rename_i hx
      rcases List.mem_cons.1 hy with e | e
      · subst e; rw [hx] at hp; cases hp
      · exact ih e
    · rfl
theorem valAt_head (l : List Put) (s : Int) : valAt l s = ((upTo l s).head?.map Put.data).getD zeros := by
  unfold valAt
  cases upTo l s <;> rfl
theorem dropWhile_not {α : Type} {p : α → Bool} {l : List α} {x : α} (h : (l.dropWhile p).head? = some x) : p x = false := by
  induction l with
  | nil => simp at h
  | cons y r ih =>
    rw [List.dropWhile_cons] at h
    split at h
    · exact ih h
    · rename_i hy
      simp only [List.head?_cons, Option.some.injEq] at h
      subst h; simpa using hy
theorem valAt_pruned {l : List Put} {h s : Int} (hs : h ≤ s) : valAt (pruned h l) s = valAt l s := by
  rw [valAt_head, valAt_head]
  cases hu : upTo l h with
  | nil => rw [pruned_eq, hu]; rfl
  | cons v r =>
    obtain ⟨hi, hv⟩ := upTo_head hu
    have hvs : v.lba ≤ h := by
      have h1 : (l.reverse.dropWhile fun x => decide (h < x.lba)).head? = some v := by
        have : (upTo l h).head? = some v := by rw [hu]; rfl
        exact this
      have := dropWhile_not h1
      simpa using this
    have hd : pruned h l = l.drop r.length := by rw [pruned_eq, hu]; simp
    rw [hd]
    have hsplit : l.reverse = (l.drop r.length).reverse ++ (l.take r.length).reverse := by rw [← List.reverse_append, List.take_append_drop]
    have hmem : v ∈ (l.drop r.length).reverse := by
      rw [List.mem_reverse, List.drop_eq_getElem_cons hi, hv]; simp
    unfold upTo
    rw [hsplit, head_dropWhile hmem (by simp; omega)]
theorem get_prune {X : XMap} {h k s : Int} (hs : h ≤ s) : (X.prune h).1.get k s = X.get k s := by
  unfold XMap.get XMap.prune
  simp only
  rw [versOf_on2 (pruned_nil h), valAt_pruned hs]
/-! ### A batch that is done -/
def TxGood (n : Int) (t : Tx) : Prop := riseM t.puts = true ∧ (∀ p ∈ t.puts, 0 ≤ p.lba ∧ p.lba < n ∧ p.data.length = 40) ∧ t.time ≤ 1099511627776
theorem good_apply {X : XMap} {t : Tx} (h : TxGood X.blocks t) (hl : X.last < t.time) : (X.apply t).2 = 0 := by
  obtain ⟨h1, h2, h3⟩ := h
  have hpos : 0 < t.puts.length := by
    unfold riseM at h1
    simp only [decide_eq_true_eq] at h1
    exact h1.1
  unfold XMap.apply
  rw [if_neg (by omega), if_neg (by rw [h1]; simp)]
  have hh : inB X (t.puts.headD ⟨0, []⟩).lba = true := by
    have := h2 (t.puts.headD ⟨0, []⟩) (by rw [List.headD_eq_head?_getD, List.head?_eq_getElem?, List.getElem?_eq_getElem hpos]; exact List.getElem_mem _)
    unfold inB; simp only [decide_eq_true_eq]; omega
  have hg : inB X (t.puts.getLastD ⟨0, []⟩).lba = true := by
    have := h2 (t.puts.getLastD ⟨0, []⟩) (by rw [List.getLastD_eq_getLast?, List.getLast?_eq_getElem?, List.getElem?_eq_getElem (by omega)]; exact List.getElem_mem _)
    unfold inB; simp only [decide_eq_true_eq]; omega
  rw [if_neg (by rw [hh, hg]; simp), if_neg]
  rw [Bool.not_eq_true, List.any_eq_false]
  intro p hp
  simp [badLen, (h2 p hp).2.2]
theorem puts_rise {B : Buf} (h : (B.data.map Prod.fst).Nodup) (hne : B.data ≠ []) : riseM B.puts = true := by
  unfold riseM
  simp only [decide_eq_true_eq]
  have hp := sortI_perm (B.data.map Prod.fst)
  refine ⟨by rw [Buf.puts, List.length_map, sortI_length, List.length_map]; exact List.length_pos_iff.2 hne, ?_⟩
  have e : B.puts.map Put.lba = sortI (B.data.map Prod.fst) := by simp [Buf.puts, Function.comp_def]
  rw [e]
  have hs : (sortI (B.data.map Prod.fst)).Pairwise (· ≤ ·) := by
    have := List.pairwise_mergeSort (le := fun x y : Int => decide (x ≤ y)) (fun a b c h1 h2 => by simp at *; omega) (fun a b => by simp; omega) (B.data.map Prod.fst)
    exact this.imp fun h => by simpa using h
  have hn : (sortI (B.data.map Prod.fst)).Nodup := hp.symm.nodup h
  have := hs.and hn
  exact this.imp fun h => by omega
theorem puts_mem {B : Buf} {p : Put} (h : p ∈ B.puts) : (p.lba, p.data) ∈ B.data := by
  unfold Buf.puts at h
  obtain ⟨k, hk, rfl⟩ := List.mem_map.1 h
  have hk' := (sortI_perm _).mem_iff.1 hk
  cases e : lkp B.data k with
  | none => exact absurd hk' (lkp_none.1 e)
  | some d => simp only [Option.getD_some]; exact lkp_mem e
/-- All that waits can be written. -/
def Good (M : Mgr) : Prop := ∀ k T, lkp M.all k = some T → T.state = 2 → TxGood M.m.blocks ⟨T.time, T.buf.puts⟩
theorem one_state {M : Mgr} {code k : Int} {x : Int × Tx} {T : Trn} (h : lkp (doneOne code M x).all k = some T) (hs : T.state = 1 ∨ T.state = 2) : lkp M.all k = some T ∧ k ≠ x.1 ∨ lkp M.all x.1 = none := by
  by_cases hk : k = x.1
  · subst hk
    unfold doneOne at h
    have key : ∀ (N : Mgr) (st c : Int), N.all = M.all → (st = 3 ∨ st = 4) → lkp (N.end_ x.1 st c).all x.1 = some T → lkp M.all x.1 = none := fun N st c hN hst hl => by
      unfold Mgr.end_ at hl
      rw [hN] at hl
      cases e : lkp M.all x.1 with
      | none => rfl
      | some S =>
        rw [e] at hl
        simp only [lkp_put, if_pos] at hl
        cases hl
        simp only at hs
        omega
    split at h
    · exact .inr (key M 4 code rfl (.inr rfl) h)
    · exact .inr (key { M with m := (M.m.apply x.2).1, last := x.2.time } 3 0 rfl (.inl rfl) h)
  · rw [one_all hk] at h
    exact .inl ⟨h, hk⟩
theorem flush_get : ∀ (Q1 : List Int) {Q2 : List Int} {M : Mgr}, Wf (Q1 ++ Q2) M → Good M →
    M.last ≤ ((Q1.map fun h => (h, txOf M h)).foldl (doneOne 0) M).last ∧
    (∀ k s, s ≤ M.last → ((Q1.map fun h => (h, txOf M h)).foldl (doneOne 0) M).m.get k s = M.m.get k s) ∧
    (∀ k, ((Q1.map fun h => (h, txOf M h)).foldl (doneOne 0) M).m.get k ((Q1.map fun h => (h, txOf M h)).foldl (doneOne 0) M).last = nowF (fun k => M.m.get k M.last) (Q1.flatMap fun h => (txOf M h).puts) k) ∧
    Good ((Q1.map fun h => (h, txOf M h)).foldl (doneOne 0) M)
  | [], _, M, _, hg => ⟨Int.le_refl _, fun _ _ _ => rfl, fun _ => rfl, hg⟩
  | i :: r, Q2, M, h, hg => by
    obtain ⟨h1, h2⟩ := Wf.one (Q := r ++ Q2) h 0
    obtain ⟨T, hT, hs2⟩ := (h.qs i).1 (by simp)
    have hql := h.ql i (by simp)
    have htx := txOf_some hT
    have hd : doneOne 0 M (i, txOf M i) = { M.end_ i 3 0 with m := (M.m.apply (txOf M i)).1, last := (txOf M i).time } := by
      unfold doneOne
      rw [if_neg (by simp), end_swap]
    have hap : (M.m.apply (txOf M i)).2 = 0 := good_apply (by rw [htx]; exact hg i T hT hs2) (by have := h.ml; omega)
    have hg1 : Good (doneOne 0 M (i, txOf M i)) := fun k S hS hs => by
      rcases one_state hS (.inr hs) with ⟨a, _⟩ | a
      · rw [hd]; simp only [blocks_apply]; exact hg k S a hs
      · simp only at a; rw [hT] at a; cases a
    obtain ⟨a1, a2, a3, a4⟩ := flush_get r h1 hg1
    have e : (r.map fun k => (k, txOf (doneOne 0 M (i, txOf M i)) k)) = r.map fun k => (k, txOf M k) :=
      List.map_congr_left fun k hk => by rw [txOf_congr (h2 k (by simp [hk]))]
    have e2 : (r.flatMap fun k => (txOf (doneOne 0 M (i, txOf M i)) k).puts) = r.flatMap fun k => (txOf M k).puts := by
      rw [List.flatMap_def, List.flatMap_def]
      congr 1
      exact List.map_congr_left fun k hk => by rw [txOf_congr (h2 k (by simp [hk]))]
    rw [e] at a1 a2 a3 a4
    rw [e2] at a3
    have hm : (doneOne 0 M (i, txOf M i)).m = (M.m.apply (txOf M i)).1 := by rw [hd]
    have hl : (doneOne 0 M (i, txOf M i)).last = (txOf M i).time := by rw [hd]
    rw [hl] at a1 a2 a3
    rw [hm] at a2 a3
    simp only [List.map_cons, List.foldl_cons, List.flatMap_cons]
    refine ⟨by omega, fun k s hs => ?_, fun k => ?_, a4⟩
    · rw [a2 k s (by omega), get_lt (by omega)]
    · rw [a3 k, nowF_append]
      refine nowF_congr (P := fun _ => True) (fun j _ => ?_) _ k trivial
      rw [get_ge hap (Int.le_refl _)]
      refine nowF_congr (P := fun _ => True) (fun j _ => ?_) _ j trivial
      have := h.ml
      exact get_top h.vo (by omega) this
theorem good_of {Q : List Int} {N : Nat} {M : Mgr} (h : Wf Q M) (ok : MgrOk N M) : Good M := fun k T hT hs => by
  obtain ⟨B, I, _⟩ := ok
  have t := I.trn hT
  refine ⟨puts_rise (h.bn k T hT) (h.qb k T hT hs), fun p hp => ?_, t.time.2⟩
  obtain ⟨a, b⟩ := t.buf.data _ (puts_mem hp)
  exact ⟨a.1, a.2, b⟩
/-! ### What each one sees -/
abbrev Row := List (SV × List UInt8)
def bz (d : List UInt8) : List UInt8 := if d.length = 0 then zeros else d
def val (r : Row) (k : Nat) : List UInt8 := bz ((r[k]?.map Prod.snd).getD [])
theorem val_set {r : Row} {i : Nat} {q : SV × List UInt8} (hi : i < r.length) (k : Nat) : val (r.set i q) k = if k = i then bz q.2 else val r k := by
  unfold val
  rw [List.getElem?_set]
  by_cases e : k = i
  · subst e; simp [hi]
  · rw [if_neg fun h => e h.symm, if_neg e]
structure Sem (now : Row) (xs : List (SV × Row)) (M : Mgr) : Prop where
  nl : now.length = 20
  xl : ∀ x ∈ xs, x.2.length = 20
  nx : (xs.length : Int) = M.book.last
  a : ∀ k : Nat, k < 20 → val now k = M.m.get k M.last
  b : ∀ (h : Nat) x T, xs[h]? = some x → lkp M.all ((h : Int) + 1) = some T → T.state = 1 → ∀ k : Nat, k < 20 → val x.2 k = (lkp T.buf.data k).getD (M.m.get k T.at_)
theorem Sem.same {now : Row} {xs : List (SV × Row)} {M N : Mgr} (h : Sem now xs M) (h1 : N.book.last = M.book.last) (h2 : N.last = M.last) (h3 : ∀ k, N.m.get k M.last = M.m.get k M.last)
    (h4 : ∀ k T, lkp N.all k = some T → T.state = 1 → ∃ T0, lkp M.all k = some T0 ∧ T0.state = 1 ∧ T0.buf = T.buf ∧ T0.at_ = T.at_ ∧ ∀ k, N.m.get k T.at_ = M.m.get k T.at_) : Sem now xs N where
  nl := h.nl
  xl := h.xl
  nx := by rw [h1]; exact h.nx
  a k hk := by rw [h2, h3]; exact h.a k hk
  b i x T hx hT hs k hk := by
    obtain ⟨T0, a1, a2, a3, a4, a5⟩ := h4 _ T hT hs
    rw [a5, ← a3, ← a4]
    exact h.b i x T0 hx a1 a2 k hk
theorem begin_ok {M : Mgr} (h : M.begin.2.2 = 0) : M.begin.1 = { M with book := ⟨M.book.most, M.book.last + 1, Sl.put M.book.times (M.book.last + 1) M.last⟩, all := Sl.put M.all (M.book.last + 1) (freshT M) } := by
  unfold Mgr.begin at h ⊢
  split
  · rename_i ho
    unfold Book.open at ho ⊢
    split at ho
    · simp at ho
    · rename_i h1
      split at ho
      · simp at ho
      · rename_i h2
        rw [if_neg h1, if_neg h2]
  · rename_i ho
    rw [if_neg ho] at h
    exact absurd h ho
theorem begin_no {M : Mgr} (h : M.begin.2.2 ≠ 0) : M.begin.1 = M := by
  unfold Mgr.begin at h ⊢
  split
  · rename_i ho; rw [if_pos ho] at h; exact absurd rfl h
  · rfl
section
variable {now : Row} {xs : List (SV × Row)} {M : Mgr}
theorem sem_begin (h : Sem now xs M) (ho : M.begin.2.2 = 0) (s : SV) : Sem now (xs ++ [(s, now)]) M.begin.1 := by
  have hb := begin_ok ho
  rw [hb]
  have nx := h.nx
  refine ⟨h.nl, fun x hx => ?_, by simp only [List.length_append, List.length_singleton]; omega, h.a, fun i x T hx hT hs k hk => ?_⟩
  · rcases List.mem_append.1 hx with e | e
    · exact h.xl x e
    · simp only [List.mem_singleton] at e; subst e; exact h.nl
  · simp only [lkp_put] at hT
    by_cases e : i = xs.length
    · subst e
      rw [List.getElem?_append_right (Nat.le_refl _)] at hx
      simp at hx
      subst hx
      rw [if_pos (by omega)] at hT
      cases hT
      simp only [freshT, lkp, Option.getD_none]
      exact h.a k hk
    · have hlt : i < xs.length := by
        have : i < (xs ++ [(s, now)]).length := (List.getElem?_eq_some_iff.1 hx).1
        simp at this; omega
      rw [List.getElem?_append_left hlt] at hx
      rw [if_neg (by omega)] at hT
      exact h.b i x T hx hT hs k hk
theorem sem_read (h : Sem now xs M) (i : Int) (e : Ext) : Sem now xs (M.readE i e).1 := by
  unfold Mgr.readE
  split
  · exact h
  · rename_i T0 hT0
    obtain ⟨h1, h2⟩ := opn_lkp hT0
    refine h.same rfl rfl (fun _ => rfl) fun k T hT hs => ?_
    simp only [lkp_put] at hT
    by_cases e : k = i
    · subst e
      rw [if_pos rfl] at hT
      cases hT
      exact ⟨T0, h1, h2, rfl, rfl, fun _ => rfl⟩
    · rw [if_neg e] at hT
      exact ⟨T, hT, hs, rfl, rfl, fun _ => rfl⟩
theorem end_state {M : Mgr} {i st code k : Int} {T : Trn} (h : lkp (M.end_ i st code).all k = some T) (hs : T.state = 1) (hst : st ≠ 1) : lkp M.all k = some T := by
  by_cases e : k = i
  · subst e
    unfold Mgr.end_ at h
    cases e : lkp M.all k with
    | none => rw [e] at h; simp only at h; rw [e] at h; cases h
    | some S =>
      rw [e] at h
      simp only [lkp_put, if_pos] at h
      cases h
      exact absurd hs hst
  · rw [end_all e] at h; exact h
theorem sem_abort (h : Sem now xs M) (i : Int) : Sem now xs (M.abort i).1 := by
  unfold Mgr.abort
  split
  · exact h
  · obtain ⟨a, b, c⟩ := end_parts M i 4 0
    have s := stay_end M i 4 0
    exact h.same s.bk b (fun k => by rw [a]) fun k T hT hs => ⟨T, end_state hT hs (by omega), hs, rfl, rfl, fun _ => by rw [a]⟩
theorem commit_state {M : Mgr} {i k : Int} {T : Trn} (h : lkp (M.commit i).1.all k = some T) (hs : T.state = 1) : lkp M.all k = some T := by
  unfold Mgr.commit at h
  split at h
  · exact h
  · rename_i T0 hT0
    obtain ⟨h1, h2⟩ := opn_lkp hT0
    split at h
    · by_cases e : k = i
      · subst e
        unfold Mgr.end_ at h
        simp only [lkp_put, if_pos] at h
        cases h
        simp at hs
      · rw [end_all e] at h
        simp only [lkp_put, if_neg e] at h
        exact h
    · split at h
      · exact end_state h hs (by omega)
      · simp only [lkp_put] at h
        by_cases e : k = i
        · rw [if_pos e] at h
          cases h
          simp at hs
        · rw [if_neg e] at h; exact h
theorem sem_commit (h : Sem now xs M) (i : Int) : Sem now xs (M.commit i).1 := by
  obtain ⟨a, b, c, d, e, f⟩ := commit_rest M i
  exact h.same d b (fun k => by rw [a]) fun k T hT hs => ⟨T, commit_state hT hs, hs, rfl, rfl, fun _ => by rw [a]⟩
theorem sem_prune {Q : List Int} (h : Sem now xs M) (wf : Wf Q M) : Sem now xs M.prune.1 := by
  have hlow := foldl_min_le M.book.times M.last
  refine h.same rfl rfl (fun k => get_prune hlow.1.1) fun k T hT hs => ⟨T, hT, hs, rfl, rfl, fun j => get_prune ?_⟩
  have := (wf.tk k T.at_).2 ⟨T, hT, .inl hs, rfl⟩
  exact hlow.1.2 _ (lkp_mem this)
theorem fold_state {code k : Int} {T : Trn} : ∀ (l : List (Int × Tx)) {M : Mgr}, (∀ x ∈ l, (lkp M.all x.1).isSome) → lkp (l.foldl (doneOne code) M).all k = some T → T.state = 1 → lkp M.all k = some T
  | [], _, _, h, _ => h
  | x :: r, M, hx, h, hs => by
    have h1 := fold_state r (M := doneOne code M x) (fun y hy => done_keys (hx y (by simp [hy]))) h hs
    rcases one_state h1 (.inl hs) with ⟨a, _⟩ | a
    · exact a
    · have := hx x (by simp)
      rw [a] at this; cases this
/-- A batch, done: what is there from now on. -/
theorem sem_flush {N : Nat} (h : Sem now xs M) (wf : Wf M.queue M) (ok : MgrOk N M) (ho : M.out = 0) (hb : M.batch.2.2 = 0) {now' : Row} (hn : now'.length = 20)
    (hv : ∀ k : Nat, k < 20 → val now' k = nowF (fun j => val now j.toNat) (M.batch.2.1.2.flatMap Tx.puts) k) : Sem now' xs (M.batch.1.done 0).1 ∧ (M.batch.1.done 0).2 = 0 := by
  have hq : M.queue.length ≠ 0 := fun e => by
    unfold Mgr.batch at hb
    rw [if_neg (by omega), if_pos e] at hb
    simp at hb
  have hbe : M.batch = ({ M with out := formL M.waiting 0 0 }, (M.num + 1, M.waiting.take (formL M.waiting 0 0).toNat), 0) := by
    unfold Mgr.batch
    rw [if_neg (by omega), if_neg hq]
  have hwne : M.waiting ≠ [] := by
    rw [wf.waiting]
    intro he
    rw [List.map_eq_nil_iff] at he
    rw [he] at hq; exact hq rfl
  have hf := formL_pos hwne 0
  rw [hbe] at hv ⊢
  simp only at hv ⊢
  have wf1 : Wf M.queue ({ M with out := formL M.waiting 0 0 } : Mgr) := { wf with hs := wf.hs }
  have hd := Wf.done_eq (M := { M with out := formL M.waiting 0 0 }) wf1 0 (by simp only; omega)
  simp only at hd
  rw [hd]
  simp only
  generalize hn0 : (formL M.waiting 0 0).toNat = n at hv ⊢
  have hsplit : Wf (M.queue.take n ++ M.queue.drop n) ({ M with out := formL M.waiting 0 0 } : Mgr) := by rw [List.take_append_drop]; exact wf1
  have hgood : Good ({ M with out := formL M.waiting 0 0 } : Mgr) := fun k T hT hs => good_of wf ok k T hT hs
  obtain ⟨f1, f2, f3, f4⟩ := flush_get _ hsplit hgood
  have hst : ∀ k T, lkp (((M.queue.take n).map fun k => (k, txOf ({ M with out := formL M.waiting 0 0 } : Mgr) k)).foldl (doneOne 0) ({ M with out := formL M.waiting 0 0 } : Mgr)).all k = some T → T.state = 1 → lkp M.all k = some T := fun k T hT hs => by
    refine fold_state (M := { M with out := formL M.waiting 0 0 }) _ (fun x hx => ?_) hT hs
    obtain ⟨j, hj, rfl⟩ := List.mem_map.1 hx
    obtain ⟨S, hS, _⟩ := (wf.qs j).1 (List.mem_of_mem_take hj)
    simp only; rw [hS]; rfl
  have hstay := stay_fold 0 ((M.queue.take n).map fun k => (k, txOf ({ M with out := formL M.waiting 0 0 } : Mgr) k)) ({ M with out := formL M.waiting 0 0 } : Mgr)
  have hw : (M.waiting.take n).flatMap Tx.puts = (M.queue.take n).flatMap fun k => (txOf ({ M with out := formL M.waiting 0 0 } : Mgr) k).puts := by
    rw [wf.waiting, ← List.map_take, List.flatMap_map]; rfl
  rw [hw] at hv
  generalize (((M.queue.take n).map fun k => (k, txOf ({ M with out := formL M.waiting 0 0 } : Mgr) k)).foldl (doneOne 0) ({ M with out := formL M.waiting 0 0 } : Mgr)) = F at f1 f2 f3 f4 hst hstay
  refine ⟨⟨hn, h.xl, by rw [h.nx]; exact hstay.bk.symm, fun k hk => ?_, fun i x T hx hT hs k hk => ?_⟩, trivial⟩
  · rw [hv k hk]
    refine Eq.trans (nowF_congr (P := fun j => 0 ≤ j ∧ j < 20) (fun j hj => ?_) _ _ (by omega)) (f3 k).symm
    obtain ⟨m, rfl⟩ : ∃ m : Nat, j = m := ⟨j.toNat, by omega⟩
    exact h.a m (by omega)
  · have hT' := hst _ T hT hs
    have := h.b i x T hx hT' hs k hk
    rw [this]
    congr 1
    exact (f2 _ _ (wf.ta _ T hT')).symm
theorem batch_no (ho : M.out = 0) (hb : M.batch.2.2 ≠ 0) : M.batch.1 = M := by
  unfold Mgr.batch at hb ⊢
  rw [if_neg (by omega)] at hb ⊢
  split
  · rfl
  · rename_i h; rw [if_neg h] at hb; exact absurd rfl hb
theorem putsIn_get : ∀ (l : List Put) (d : List (Int × List UInt8)) (z : Int → List UInt8) (k : Int), (lkp (putsIn d l) k).getD (z k) = nowF (fun k => (lkp d k).getD (z k)) l k
  | [], _, _, _ => rfl
  | p :: r, d, z, k => by
    have h1 := putsIn_get r (put d p.lba p.data) z k
    have h2 : (fun k => (lkp (put d p.lba p.data) k).getD (z k)) = fun k => if k = p.lba then p.data else (lkp d k).getD (z k) := funext fun j => by
      rw [lkp_put]
      by_cases e : j = p.lba
      · rw [if_pos e, if_pos e]; rfl
      · rw [if_neg e, if_neg e]
    rw [h2] at h1
    exact h1
/-- What a write that is taken does. -/
theorem write_ok {i : Int} {l : List Put} (h : (M.write i l).2 = 0) : ∃ T, M.opn i = some T ∧ (∀ p ∈ l, (0 ≤ p.lba ∧ p.lba < T.buf.blocks) ∧ p.data.length = 40) ∧ (M.write i l).1 = { M with all := Sl.put M.all i { T with buf := { T.buf with data := putsIn T.buf.data l } } } := by
  unfold Mgr.write at h ⊢
  cases ho : M.opn i with
  | none => rw [ho] at h; simp at h
  | some T =>
    rw [ho] at h
    simp only at h ⊢
    refine ⟨T, rfl, ?_⟩
    unfold Buf.write at h ⊢
    repeat' split at h
    all_goals first | (simp at h; done) | skip
    rename_i a b c d e
    rw [if_neg a, if_neg b, if_neg c, if_neg d, if_neg e]
    refine ⟨fun p hp => ?_, rfl⟩
    have b' := List.any_eq_false.1 (by simpa using b : l.any (outOf T.buf.blocks) = false) p hp
    have c' := List.any_eq_false.1 (by simpa using c : l.any badLen = false) p hp
    simp only [outOf, badLen, Bool.or_eq_true, decide_eq_true_eq, not_or, Bool.not_eq_true', decide_eq_false_iff_not, Decidable.not_not] at b' c'
    omega
theorem write_no {i : Int} {l : List Put} (h : Sem now xs M) (hw : (M.write i l).2 ≠ 0) : Sem now xs (M.write i l).1 := by
  unfold Mgr.write at hw ⊢
  split
  · exact h
  · rename_i T0 hT0
    rw [hT0] at hw
    simp only at hw ⊢
    have hb : (T0.buf.write l).1 = T0.buf := by
      unfold Buf.write at hw ⊢
      repeat' split
      all_goals first | rfl | skip
      rename_i a b c d e
      rw [if_neg a, if_neg b, if_neg c, if_neg d, if_neg e] at hw
      exact absurd rfl hw
    obtain ⟨h1, h2⟩ := opn_lkp hT0
    refine h.same rfl rfl (fun _ => rfl) fun k T hT hs => ?_
    simp only [lkp_put] at hT
    by_cases e : k = i
    · subst e
      rw [if_pos rfl] at hT
      cases hT
      exact ⟨T0, h1, h2, hb.symm, rfl, fun _ => rfl⟩
    · rw [if_neg e] at hT
      exact ⟨T, hT, hs, rfl, rfl, fun _ => rfl⟩
theorem sem_write {j : Nat} {T : Trn} {x : SV × Row} {l : List Put} {r : Row} (h : Sem now xs M) (ho : M.opn ((j : Int) + 1) = some T) (hx : xs[j]? = some x) (hr : r.length = 20)
    (hv : ∀ k : Nat, k < 20 → val r k = nowF (fun j => val x.2 j.toNat) l k) (s : SV) : Sem now (xs.set j (s, r)) { M with all := Sl.put M.all ((j : Int) + 1) { T with buf := { T.buf with data := putsIn T.buf.data l } } } := by
  obtain ⟨h1, h2⟩ := opn_lkp ho
  refine ⟨h.nl, fun y hy => ?_, by simp only [List.length_set]; exact h.nx, h.a, fun i y T' hy hT hs k hk => ?_⟩
  · rcases List.mem_or_eq_of_mem_set hy with e | e
    · exact h.xl y e
    · subst e; exact hr
  · simp only [lkp_put] at hT
    rw [List.getElem?_set] at hy
    by_cases e : i = j
    · subst e
      rw [if_pos rfl] at hT hy
      cases hT
      have hj : i < xs.length := (List.getElem?_eq_some_iff.1 hx).1
      rw [if_pos hj] at hy
      cases hy
      simp only
      rw [hv k hk, putsIn_get l T.buf.data (fun k => M.m.get k T.at_) k]
      refine nowF_congr (P := fun j => 0 ≤ j ∧ j < 20) (fun m hm => ?_) _ _ (by omega)
      obtain ⟨m', rfl⟩ : ∃ m' : Nat, m = m' := ⟨m.toNat, by omega⟩
      exact h.b i x T hx h1 h2 m' (by omega)
    · rw [if_neg (by omega)] at hT
      rw [if_neg fun h => e h.symm] at hy
      exact h.b i y T' hy hT hs k hk
theorem seen_val {T : Trn} {k t : Int} {M : XMap} : (seenB M T.buf t k).data = (lkp T.buf.data k).getD (M.get k t) := by
  unfold seenB
  cases lkp T.buf.data k <;> rfl
end
end Go.Proofs.YtbolgpjcmchfoaaGreat
