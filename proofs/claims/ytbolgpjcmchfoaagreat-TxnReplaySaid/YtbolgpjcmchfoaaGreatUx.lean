/- What was committed last is what is there: an invariant of the manager, plain. -/
import Derived.Test.YtbolgpjcmchfoaaGreatUw
namespace Go.Proofs.YtbolgpjcmchfoaaGreat
open Go Go.Vc Go.Sl Go.Mo
/-! ### The last version -/
def lastV (X : XMap) (k : Int) : Option Put := (versOf X.vers k).getLast?
theorem versOf_put1 {v : List (Int × List Put)} {a k : Int} {L : List Put} : versOf (Sl.put v a L) k = if k = a then L else versOf v k := by
  unfold versOf
  rw [lkp_put]
  split <;> rfl
theorem addVer_last {t : Int} {v : List (Int × List Put)} {x : Put} {k : Int} : (versOf (addVer t v x) k).getLast? = if k = x.lba then some ⟨t, x.data⟩ else (versOf v k).getLast? := by
  unfold addVer
  rw [versOf_put1]
  split <;> simp
theorem addVers_not {t k : Int} : ∀ (l : List Put) (v : List (Int × List Put)), (∀ p ∈ l, p.lba ≠ k) → (versOf (l.foldl (addVer t) v) k).getLast? = (versOf v k).getLast?
  | [], _, _ => rfl
  | x :: r, v, h => by
    rw [List.foldl_cons, addVers_not r _ fun p hp => h p (by simp [hp]), addVer_last, if_neg fun e => h x (by simp) e.symm]
theorem addVers_mem {t : Int} {p : Put} : ∀ (l : List Put) (v : List (Int × List Put)), (l.map Put.lba).Nodup → p ∈ l → (versOf (l.foldl (addVer t) v) p.lba).getLast? = some ⟨t, p.data⟩
  | [], _, _, h => by simp at h
  | x :: r, v, hn, h => by
    rw [List.map_cons, List.nodup_cons] at hn
    rw [List.foldl_cons]
    rcases List.mem_cons.1 h with e | e
    · subst e
      rw [addVers_not r _ fun q hq hqe => hn.1 (List.mem_map.2 ⟨q, hq, hqe⟩), addVer_last, if_pos rfl]
    · exact addVers_mem r _ hn.2 e
/-! ### Who was committed with what -/
def com (M : Mgr) (h : Int) : Option (Int × List (Int × List UInt8)) :=
  match lkp M.all h with
  | some T => if T.state = 3 ∧ T.buf.data ≠ [] then some (T.time, T.buf.data) else none
  | none => none
theorem com_congr {M N : Mgr} {h : Int} (e : lkp N.all h = lkp M.all h) : com N h = com M h := by unfold com; rw [e]
theorem com_state {M : Mgr} {h : Int} {T : Trn} (e : lkp M.all h = some T) (hs : T.state ≠ 3) : com M h = none := by
  unfold com; rw [e]; simp only; rw [if_neg fun q => hs q.1]
structure Rep (M : Mgr) : Prop where
  bl : M.m.blocks = 20
  le : ∀ h t d, com M h = some (t, d) → t ≤ M.last
  inj : ∀ h h' t d d', com M h = some (t, d) → com M h' = some (t, d') → h = h'
  non : ∀ k, lastV M.m k = none → ∀ h t d, com M h = some (t, d) → lkp d k = none
  top : ∀ k v, lastV M.m k = some v → ∃ h t d, com M h = some (t, d) ∧ lkp d k = some v.data ∧ ∀ h' t' d', com M h' = some (t', d') → h' ≠ h → (lkp d' k).isSome → t' < t
theorem Rep.same {M N : Mgr} (h : Rep M) (hb : N.m.blocks = M.m.blocks) (hv : ∀ k, lastV N.m k = lastV M.m k) (hl : M.last ≤ N.last) (hc : ∀ k, com N k = com M k) : Rep N where
  bl := by rw [hb]; exact h.bl
  le i t d e := by rw [hc] at e; have := h.le i t d e; omega
  inj i j t d d' e1 e2 := by rw [hc] at e1 e2; exact h.inj i j t d d' e1 e2
  non k e i t d e1 := by rw [hv] at e; rw [hc] at e1; exact h.non k e i t d e1
  top k v e := by
    rw [hv] at e
    obtain ⟨i, t, d, a, b, c⟩ := h.top k v e
    exact ⟨i, t, d, by rw [hc]; exact a, b, fun i' t' d' e1 => by rw [hc] at e1; exact c i' t' d' e1⟩
theorem rep_new : Rep (Mgr.new 20 0) where
  bl := rfl
  le h t d e := by simp [com, Mgr.new, lkp] at e
  inj h h' t d d' e := by simp [com, Mgr.new, lkp] at e
  non k _ h t d e := by simp [com, Mgr.new, lkp] at e
  top k v e := by simp [lastV, Mgr.new, versOf, lkp] at e
/-- One transaction changes, and was not and is not committed with writes. -/
theorem com_upd {M N : Mgr} {i : Int} (ho : ∀ k, k ≠ i → lkp N.all k = lkp M.all k) (h1 : com M i = none) (h2 : com N i = none) : ∀ k, com N k = com M k := fun k => by
  by_cases e : k = i
  · subst e; rw [h1, h2]
  · exact com_congr (ho k e)
theorem com_end4 {M : Mgr} {i c : Int} : com (M.end_ i 4 c) i = none ∨ lkp M.all i = none := by
  unfold Mgr.end_
  cases h : lkp M.all i with
  | none => exact .inr rfl
  | some T => exact .inl (com_state (T := { T with state := 4, code := c, time := if (4 : Int) = 4 then 0 else T.time }) (by simp [lkp_put]) (by simp))
theorem com_end4' {M : Mgr} {i c : Int} (h : com M i = none) : ∀ k, com (M.end_ i 4 c) k = com M k := by
  rcases com_end4 (M := M) (i := i) (c := c) with e | e
  · exact com_upd (fun k hk => end_all hk) h e
  · have : M.end_ i 4 c = M := by unfold Mgr.end_; rw [e]
    rw [this]; exact fun _ => rfl
section
variable {M : Mgr}
theorem rep_begin (h : Rep M) (wf : Wf M.queue M) : Rep M.begin.1 := by
  unfold Mgr.begin
  split
  · rename_i ho
    refine h.same rfl (fun _ => rfl) (Int.le_refl _) ?_
    have hk : (M.book.open M.last).2.1 = M.book.last + 1 := by
      unfold Book.open at ho ⊢
      repeat' split
      all_goals first | rfl | skip
      all_goals simp_all
    have hnone : lkp M.all (M.book.last + 1) = none := by
      cases e : lkp M.all (M.book.last + 1) with
      | none => rfl
      | some T =>
        have := (wf.hs (M.book.last + 1)).1 (by rw [e]; rfl)
        omega
    refine com_upd (i := M.book.last + 1) (fun k hk' => ?_) (by unfold com; rw [hnone]) (com_state (T := freshT M) ?_ (by simp [freshT]))
    · simp only [lkp_put, hk]; rw [if_neg hk']
    · simp only [lkp_put, hk]; simp
  · exact h
theorem rep_read (h : Rep M) (i : Int) (e : Ext) : Rep (M.readE i e).1 := by
  unfold Mgr.readE
  split
  · exact h
  · rename_i T hT
    obtain ⟨h1, h2⟩ := opn_of_lkp hT
    exact h.same rfl (fun _ => rfl) (Int.le_refl _) (com_upd (i := i) (fun k hk => by simp only [lkp_put]; rw [if_neg hk]) (com_state h1 (by omega)) (com_state (T := { T with view := (T.view.read M.m T.buf e).1 }) (by simp [lkp_put]) (by simp only; omega)))
theorem rep_write (h : Rep M) (i : Int) (l : List Put) : Rep (M.write i l).1 := by
  unfold Mgr.write
  split
  · exact h
  · rename_i T hT
    obtain ⟨h1, h2⟩ := opn_of_lkp hT
    exact h.same rfl (fun _ => rfl) (Int.le_refl _) (com_upd (i := i) (fun k hk => by simp only [lkp_put]; rw [if_neg hk]) (com_state h1 (by omega)) (com_state (T := { T with buf := (T.buf.write l).1 }) (by simp [lkp_put]) (by simp only; omega)))
theorem rep_abort (h : Rep M) (i : Int) : Rep (M.abort i).1 := by
  unfold Mgr.abort
  split
  · exact h
  · rename_i T hT
    obtain ⟨h1, h2⟩ := opn_of_lkp hT
    obtain ⟨e1, e2, _⟩ := end_parts M i 4 0
    exact h.same (by rw [e1]) (fun _ => by rw [e1]) (by rw [e2]; omega) (com_end4' (com_state h1 (by omega)))
theorem rep_commit (h : Rep M) (i : Int) : Rep (M.commit i).1 := by
  unfold Mgr.commit
  split
  · exact h
  · rename_i T hT
    obtain ⟨h1, h2⟩ := opn_of_lkp hT
    have h0 : com M i = none := com_state h1 (by omega)
    split
    · rename_i hb
      have hb' : T.buf.data = [] := List.length_eq_zero_iff.1 hb
      obtain ⟨e1, e2, _⟩ := end_parts ({ M with all := Sl.put M.all i { T with time := T.at_ } } : Mgr) i 3 0
      refine h.same (by simp only; rw [e1]) (fun _ => by simp only; rw [e1]) (by simp only; rw [e2]; exact Int.le_refl _) (com_upd (i := i) (fun k hk => ?_) h0 ?_)
      · simp only
        rw [end_all hk]; simp only [lkp_put]; rw [if_neg hk]
      · unfold Mgr.end_
        simp only [lkp_put, if_true]
        unfold com
        simp only [lkp_put, if_true]
        rw [if_neg fun q => q.2 hb']
    · split
      · obtain ⟨e1, e2, _⟩ := end_parts M i 4 (M.may T)
        exact h.same (by simp only; rw [e1]) (fun _ => by simp only; rw [e1]) (by simp only; rw [e2]; exact Int.le_refl _) (com_end4' h0)
      · exact h.same rfl (fun _ => rfl) (Int.le_refl _) (com_upd (i := i) (fun k hk => by simp only [lkp_put]; rw [if_neg hk]) h0 (com_state (T := { T with state := 2, time := M.given + 1 }) (by simp [lkp_put]) (by simp)))
theorem rep_batch (h : Rep M) : Rep M.batch.1 := by
  unfold Mgr.batch
  repeat' split
  · exact h
  · exact h
  · exact h.same rfl (fun _ => rfl) (Int.le_refl _) fun _ => rfl
theorem getLast?_drop1 {α : Type} (l : List α) (n : Nat) (h : n < l.length) : (l.drop n).getLast? = l.getLast? := by
  rw [List.getLast?_drop, if_neg (by omega)]
theorem rep_prune (h : Rep M) : Rep M.prune.1 := by
  refine h.same rfl (fun k => ?_) (Int.le_refl _) fun _ => rfl
  show lastV (M.m.prune (M.book.low M.last)).1 k = lastV M.m k
  unfold lastV
  have e : (M.m.prune (M.book.low M.last)).1.vers = on2 (pruned (M.book.low M.last)) M.m.vers := rfl
  rw [e, versOf_on2 (by simp [pruned])]
  by_cases h0 : (versOf M.m.vers k).length = 0
  · have := List.length_eq_zero_iff.1 h0
    rw [this]; rfl
  · have h2 := upTo_length_le (versOf M.m.vers k) (M.book.low M.last)
    unfold pruned
    rw [getLast?_drop1 _ _ (by omega)]
end
/-! ### A batch that is done -/
def TxGoodR (n : Int) (t : Tx) : Prop := riseM t.puts = true ∧ (∀ p ∈ t.puts, 0 ≤ p.lba ∧ p.lba < n ∧ p.data.length = 40) ∧ t.time ≤ 1099511627776
theorem goodApply {X : XMap} {t : Tx} (h : TxGoodR X.blocks t) (hl : X.last < t.time) : (X.apply t).1 = { X with vers := t.puts.foldl (addVer t.time) X.vers, last := t.time } := by
  obtain ⟨h1, h2, h3⟩ := h
  have hpos : 0 < t.puts.length := by
    unfold riseM at h1
    simp only [decide_eq_true_eq] at h1
    exact h1.1
  unfold XMap.apply
  rw [if_neg (by omega), if_neg (by rw [h1]; simp)]
  have hh : inB X (t.puts.headD ⟨0, []⟩).lba = true := by
    have := h2 (t.puts.headD ⟨0, []⟩) (by rw [List.headD_eq_head?_getD, List.head?_eq_getElem?, List.getElem?_eq_getElem hpos]; exact List.getElem_mem _)
    unfold inB; simp only [decide_eq_true_eq]; omega
  have hg : inB X (t.puts.getLastD ⟨0, []⟩).lba = true := by
    have := h2 (t.puts.getLastD ⟨0, []⟩) (by rw [List.getLastD_eq_getLast?, List.getLast?_eq_getElem?, List.getElem?_eq_getElem (by omega)]; exact List.getElem_mem _)
    unfold inB; simp only [decide_eq_true_eq]; omega
  rw [if_neg (by rw [hh, hg]; simp), if_neg]
  rw [Bool.not_eq_true, List.any_eq_false]
  intro p hp
  simp [badLen, (h2 p hp).2.2]
theorem putsRise {B : Buf} (h : (B.data.map Prod.fst).Nodup) (hne : B.data ≠ []) : riseM B.puts = true := by
  unfold riseM
  simp only [decide_eq_true_eq]
  refine ⟨by rw [Buf.puts, List.length_map, sortI_length, List.length_map]; exact List.length_pos_iff.2 hne, ?_⟩
  have e : B.puts.map Put.lba = sortI (B.data.map Prod.fst) := by simp [Buf.puts, Function.comp_def]
  rw [e]
  exact sortI_lt h
def GoodR (M : Mgr) : Prop := ∀ k T, lkp M.all k = some T → T.state = 2 → TxGoodR M.m.blocks ⟨T.time, T.buf.puts⟩
theorem good_ofR {Q : List Int} {N : Nat} {M : Mgr} (h : Wf Q M) (ok : MgrOk N M) : GoodR M := fun k T hT hs => by
  obtain ⟨B, I, _⟩ := ok
  have t := I.trn hT
  refine ⟨putsRise (h.bn k T hT) (h.qb k T hT hs), fun p hp => ?_, t.time.2⟩
  have hp' := mem_puts.1 hp
  obtain ⟨a, b⟩ := t.buf.data _ (lkp_mem hp')
  exact ⟨a.1, a.2, b⟩
theorem rep_one {Q : List Int} {M : Mgr} {h code : Int} (r : Rep M) (wf : Wf (h :: Q) M) (g : GoodR M) : Rep (doneOne code M (h, txOf M h)) ∧ GoodR (doneOne code M (h, txOf M h)) := by
  obtain ⟨T, hT, hs2⟩ := (wf.qs h).1 (by simp)
  have hql := wf.ql h (by simp)
  have htx := txOf_some hT
  have hc0 : com M h = none := com_state hT (by omega)
  by_cases hcode : code ≠ 0
  · have e : doneOne code M (h, txOf M h) = M.end_ h 4 code := by unfold doneOne; rw [if_pos hcode]
    obtain ⟨e1, e2, _⟩ := end_parts M h 4 code
    rw [e]
    refine ⟨r.same (by rw [e1]) (fun _ => by rw [e1]) (by rw [e2]; exact Int.le_refl _) (com_end4' hc0), fun k S hS hs => ?_⟩
    rw [e1]
    by_cases hk : k = h
    · subst hk
      unfold Mgr.end_ at hS
      rw [hT] at hS
      simp only [lkp_put, if_true, Option.some.injEq] at hS
      subst hS; simp at hs
    · rw [end_all hk] at hS
      exact g k S hS hs
  · have hcode : code = 0 := Decidable.not_not.1 hcode
    subst hcode
    have hgood := g h T hT hs2
    have hap := goodApply hgood (by have := wf.ml; rw [htx] at hql; simp only at hql ⊢; omega)
    have hd : doneOne 0 M (h, txOf M h) = { M.end_ h 3 0 with m := (M.m.apply (txOf M h)).1, last := (txOf M h).time } := by
      unfold doneOne
      rw [if_neg (by simp), end_swap]
    rw [htx] at hql hd
    simp only at hql
    rw [htx, hd, hap]
    have hne := wf.qb h T hT hs2
    have hnd := wf.bn h T hT
    have hcom : ∀ k, com { M.end_ h 3 0 with m := { M.m with vers := T.buf.puts.foldl (addVer T.time) M.m.vers, last := T.time }, last := T.time } k = if k = h then some (T.time, T.buf.data) else com M k := fun k => by
      by_cases hk : k = h
      · subst hk
        rw [if_pos rfl]
        unfold com Mgr.end_
        rw [hT]
        simp only [lkp_put, if_true]
        rw [if_pos ⟨trivial, hne⟩]
        simp
      · rw [if_neg hk]
        refine com_congr ?_
        show lkp (M.end_ h 3 0).all k = _
        exact end_all hk
    have hlast : ∀ k, lastV { M.m with vers := T.buf.puts.foldl (addVer T.time) M.m.vers, last := T.time } k = match lkp T.buf.data k with
        | some d => some ⟨T.time, d⟩
        | none => lastV M.m k := fun k => by
      unfold lastV
      have hpn : (T.buf.puts.map Put.lba).Nodup := rise_nodup (putsRise hnd hne)
      cases e : lkp T.buf.data k with
      | some d => exact addVers_mem (p := ⟨k, d⟩) T.buf.puts M.m.vers hpn (mem_puts.2 e)
      | none =>
        refine addVers_not T.buf.puts M.m.vers fun p hp hpk => ?_
        have := mem_puts.1 hp
        rw [hpk, e] at this; cases this
    constructor
    · refine ⟨r.bl, fun k t d e => ?_, fun i j t d d' e1 e2 => ?_, fun k e i t d e1 => ?_, fun k v e => ?_⟩
      · rw [hcom] at e
        simp only
        split at e
        · cases e; exact Int.le_refl _
        · have := r.le k t d e; omega
      · rw [hcom] at e1 e2
        split at e1 <;> split at e2
        · omega
        · cases e1
          have := r.le j _ _ e2; omega
        · cases e2
          have := r.le i _ _ e1; omega
        · exact r.inj i j t d d' e1 e2
      · rw [hlast] at e
        rw [hcom] at e1
        cases hk : lkp T.buf.data k with
        | some d' => rw [hk] at e; cases e
        | none =>
          rw [hk] at e
          split at e1
          · cases e1; exact hk
          · exact r.non k e i t d e1
      · rw [hlast] at e
        cases hk : lkp T.buf.data k with
        | some d' =>
          rw [hk] at e
          cases e
          refine ⟨h, T.time, T.buf.data, by rw [hcom, if_pos rfl], hk, fun i' t' d'' e1 hne' _ => ?_⟩
          rw [hcom, if_neg hne'] at e1
          have := r.le i' _ _ e1; omega
        | none =>
          rw [hk] at e
          obtain ⟨i, t, d, a, b, c⟩ := r.top k v e
          refine ⟨i, t, d, ?_, b, fun i' t' d'' e1 hne' hsome => ?_⟩
          · rw [hcom, if_neg fun e2 => by subst e2; rw [hc0] at a; cases a]; exact a
          · rw [hcom] at e1
            split at e1
            · cases e1
              rw [hk] at hsome; cases hsome
            · exact c i' t' d'' e1 hne' hsome
    · intro k S hS hs
      by_cases hk : k = h
      · subst hk
        simp only at hS
        unfold Mgr.end_ at hS
        rw [hT] at hS
        simp only [lkp_put, if_true, Option.some.injEq] at hS
        subst hS; simp at hs
      · simp only at hS
        rw [end_all hk] at hS
        exact g k S hS hs
theorem rep_fold (code : Int) : ∀ (Q1 : List Int) {Q2 : List Int} {M : Mgr}, Rep M → Wf (Q1 ++ Q2) M → GoodR M → Rep ((Q1.map fun h => (h, txOf M h)).foldl (doneOne code) M)
  | [], _, _, r, _, _ => r
  | i :: q, Q2, M, r, h, g => by
    obtain ⟨h1, h2⟩ := Wf.one (Q := q ++ Q2) h code
    obtain ⟨r1, g1⟩ := rep_one (code := code) r h g
    have h3 := rep_fold code q r1 h1 g1
    have e : (q.map fun k => (k, txOf (doneOne code M (i, txOf M i)) k)) = q.map fun k => (k, txOf M k) :=
      List.map_congr_left fun k hk => by rw [txOf_congr (h2 k (by simp [hk]))]
    rw [e] at h3
    exact h3
theorem rep_done {N : Nat} {M : Mgr} (r : Rep M) (h : Wf M.queue M) (ok : MgrOk N M) (code : Int) : Rep (M.done code).1 := by
  by_cases ho : M.out = 0
  · unfold Mgr.done; rw [if_pos ho]; exact r
  · rw [h.done_eq code ho]
    have h1 : Wf (M.queue.take M.out.toNat ++ M.queue.drop M.out.toNat) M := by rw [List.take_append_drop]; exact h
    have h2 := rep_fold code _ r h1 (good_ofR h ok)
    exact h2.same rfl (fun _ => rfl) (Int.le_refl _) fun _ => rfl
theorem rep_stp {N : Nat} {M : Mgr} (r : Rep M) (wf : Wf M.queue M) (ok : MgrOk N M) (t : Stp) : Rep (stpM M t) := by
  unfold stpM
  split
  · exact rep_begin r wf
  split
  · exact rep_read r _ _
  split
  · exact rep_write r _ _
  split
  · exact rep_commit r _
  split
  · exact rep_abort r _
  split
  · exact rep_batch r
  split
  · exact rep_done r wf ok _
  split
  · exact r.same rfl (fun _ => rfl) (Int.le_refl _) fun _ => rfl
  split
  · exact rep_prune r
  · exact r
end Go.Proofs.YtbolgpjcmchfoaaGreat
