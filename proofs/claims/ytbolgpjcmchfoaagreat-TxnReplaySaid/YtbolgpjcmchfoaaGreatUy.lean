/- The law TxnReplay: what the histories say, replayed in the order of the commits, is what is there. -/
import Derived.Test.YtbolgpjcmchfoaaGreatUx
import Derived.Test.YtbolgpjcmchfoaaGreatLa
namespace Go.Proofs.YtbolgpjcmchfoaaGreat
open Go Go.Vc Go.Sl Go.Mo
theorem freezeP {s : SV} {l : List Put} {F : Heap → Prop} {R : HP} {w : World} (hF : Mono F) (h : Sat (putsA s l * (pool F * R)) w) : ∃ F' : Heap → Prop, Mono F' ∧ (∀ h, F' h → F h) ∧ KPuts F' s l ∧ Sat (pool F' * R) w := by
  have hc : s.n ≤ s.c := by
    obtain ⟨xs, _, h1⟩ := pairsA_open h
    exact ownS_cap h1
  obtain ⟨w1, h1, h2, h3⟩ := pool_take hF h
  exact ⟨_, h2, fun h hh => hh.2, kputs_ofC (fun h hh => hh.1) (putsA_on h1) hc, h3⟩
/-! ### All blocks after what ran -/
theorem runL_not {k : Nat} : ∀ (l : List Put) (L : List (List UInt8)), (∀ x ∈ l, 0 ≤ x.lba) → (∀ x ∈ l, x.lba ≠ (k : Int)) → (runL L l)[k]? = L[k]?
  | [], _, _, _ => rfl
  | x :: r, L, h0, h => by
    have h1 := h0 x (by simp)
    have h2 := h x (by simp)
    have := runL_not r (L.set x.lba.toNat x.data) (fun y hy => h0 y (by simp [hy])) fun y hy => h y (by simp [hy])
    unfold runL at this ⊢
    rw [List.foldl_cons, this, List.getElem?_set_ne (by omega)]
theorem runL_mem {k : Nat} {p : Put} : ∀ (l : List Put) (L : List (List UInt8)), (l.map Put.lba).Nodup → (∀ x ∈ l, 0 ≤ x.lba ∧ x.lba < L.length) → p ∈ l → p.lba = (k : Int) → (runL L l)[k]? = some p.data
  | [], _, _, _, h, _ => by simp at h
  | x :: r, L, hn, h0, h, hk => by
    rw [List.map_cons, List.nodup_cons] at hn
    have hx := h0 x (by simp)
    rcases List.mem_cons.1 h with e | e
    · subst e
      have := runL_not (k := k) r (L.set p.lba.toNat p.data) (fun y hy => (h0 y (by simp [hy])).1) fun y hy he => hn.1 (List.mem_map.2 ⟨y, hy, by omega⟩)
      unfold runL at this ⊢
      rw [List.foldl_cons, this]
      have e2 : p.lba.toNat = k := by omega
      rw [e2, List.getElem?_set_self (by omega)]
    · have := runL_mem (k := k) (p := p) r (L.set x.lba.toNat x.data) hn.2 (fun y hy => by rw [List.length_set]; exact h0 y (by simp [hy])) e hk
      unfold runL at this ⊢
      rw [List.foldl_cons]; exact this
theorem repl_not {xs : List HX} {k : Nat} : ∀ (o : List Nat) (L : List (List UInt8)), (∀ j ∈ o, RunOk 20 (psX xs j)) → (∀ j ∈ o, ∀ x ∈ psX xs j, x.lba ≠ (k : Int)) → (o.foldl (fun L j => runL L (psX xs j)) L)[k]? = L[k]?
  | [], _, _, _ => rfl
  | j :: r, L, ok, h => by
    rw [List.foldl_cons, repl_not r _ (fun i hi => ok i (by simp [hi])) fun i hi => h i (by simp [hi])]
    exact runL_not _ _ (fun x hx => ((ok j (by simp)).lba x hx).1) (h j (by simp))
theorem repl_len {xs : List HX} : ∀ (o : List Nat) (L : List (List UInt8)), (o.foldl (fun L j => runL L (psX xs j)) L).length = L.length
  | [], _ => rfl
  | j :: r, L => by rw [List.foldl_cons, repl_len r, runL_length]
/-! ### What is there -/
theorem mem_dump {X : XMap} {p : Put} : p ∈ X.dump ↔ p.lba ∈ X.vers.map Prod.fst ∧ p.data = ((versOf X.vers p.lba).getLastD ⟨0, []⟩).data := by
  unfold XMap.dump
  rw [List.mem_map]
  constructor
  · rintro ⟨k, hk, rfl⟩
    exact ⟨(sortI_perm _).mem_iff.1 hk, rfl⟩
  · rintro ⟨a, b⟩
    exact ⟨p.lba, (sortI_perm _).mem_iff.2 a, by rw [← b]⟩
theorem key_last {X : XMap} (h : VOk X) (h0 : ∀ q ∈ X.vers, 0 < q.2.length) (k : Int) : k ∈ X.vers.map Prod.fst ↔ (lastV X k).isSome := by
  unfold lastV
  constructor
  · intro hk
    obtain ⟨q, hq, rfl⟩ := List.mem_map.1 hk
    rw [versOf_of h.1 hq, List.getLast?_isSome]
    intro e
    have := h0 q hq
    rw [e] at this; simp at this
  · intro hs
    obtain ⟨v, hv⟩ := Option.isSome_iff_exists.1 hs
    obtain ⟨q, hq, e, _⟩ := versOf_mem (List.mem_of_getLast? hv)
    exact List.mem_map.2 ⟨q, hq, e⟩
theorem dump_last {X : XMap} (h : VOk X) (h0 : ∀ q ∈ X.vers, 0 < q.2.length) {k : Int} {v : Put} (hv : lastV X k = some v) : (⟨k, v.data⟩ : Put) ∈ X.dump := by
  refine mem_dump.2 ⟨(key_last h h0 k).2 (by rw [hv]; rfl), ?_⟩
  unfold lastV at hv
  simp only
  rw [List.getLastD_eq_getLast?, hv]; rfl
theorem dump_runOk {N : Nat} {M : Mgr} (r : Rep M) (ok : MgrOk N M) (vo : VOk M.m) : RunOk 20 M.m.dump := by
  obtain ⟨B, I, _⟩ := ok
  have hb := r.bl
  refine ⟨fun x hx => ?_, fun x hx => ?_, ?_⟩
  · obtain ⟨a, _⟩ := mem_dump.1 hx
    obtain ⟨q, hq, e⟩ := List.mem_map.1 a
    have := (I.vers.2.2 q hq).1
    omega
  · obtain ⟨a, b⟩ := mem_dump.1 hx
    obtain ⟨q, hq, e⟩ := List.mem_map.1 a
    obtain ⟨_, c1, _, c2⟩ := I.vers.2.2 q hq
    rw [b, ← e, versOf_of vo.1 hq, List.getLastD_eq_getLast?]
    cases hl : q.2.getLast? with
    | none => rw [List.getLast?_eq_none_iff] at hl; rw [hl] at c1; simp at c1
    | some v => exact c2 v (List.mem_of_getLast? hl)
  · have e : M.m.dump.map Put.lba = sortI (M.m.vers.map Prod.fst) := by simp [XMap.dump, Function.comp_def]
    rw [e]
    exact (sortI_perm _).symm.nodup vo.1
/-- The histories of all that ever began. -/
structure Hist (M : Mgr) (n : Nat) (xs : List HX) : Prop where
  len : xs.length = n
  h : ∀ j (hj : j < xs.length), xs[j].st = (Mgr.hist M ((j : Int) + 1)).1 ∧ xs[j].ti = (Mgr.hist M ((j : Int) + 1)).2.2.1 ∧ xs[j].ps = (Mgr.hist M ((j : Int) + 1)).2.2.2.2 ∧ xs[j].ws.n = xs[j].ps.length
theorem hist_wrote {M : Mgr} {n : Nat} {xs : List HX} (h : Hist M n xs) {j : Nat} (hw : wroteAt xs j = true) : j < xs.length ∧ ∃ T, lkp M.all ((j : Int) + 1) = some T ∧ T.state = 3 ∧ T.buf.data ≠ [] ∧ tmX xs j = T.time ∧ psX xs j = T.buf.puts := by
  unfold wroteAt at hw
  cases e : xs[j]? with
  | none => rw [e] at hw; cases hw
  | some x =>
    have hj := lt_of_get e
    rw [List.getElem?_eq_getElem hj] at e
    cases e
    rw [List.getElem?_eq_getElem hj] at hw
    obtain ⟨a, b, c, d⟩ := h.h j hj
    simp only [wroteX, Bool.and_eq_true, decide_eq_true_eq] at hw
    refine ⟨hj, ?_⟩
    have t1 : tmX xs j = xs[j].ti := by unfold tmX; rw [List.getElem?_eq_getElem hj]
    have t2 : psX xs j = xs[j].ps := by unfold psX; rw [List.getElem?_eq_getElem hj]
    unfold Mgr.hist at a b c
    cases hT : lkp M.all ((j : Int) + 1) with
    | none => rw [hT] at a; simp only at a; omega
    | some T =>
      rw [hT] at a b c
      simp only at a b c
      refine ⟨T, rfl, by omega, fun e => ?_, by rw [t1, b], by rw [t2, c]⟩
      have := puts_length T.buf
      rw [e] at this
      rw [c, this] at d
      simp at d; omega
theorem hist_com {M : Mgr} {n : Nat} {xs : List HX} (h : Hist M n xs) (wf : Wf M.queue M) (hn : M.book.last ≤ n) {i t : Int} {d : List (Int × List UInt8)} (hc : com M i = some (t, d)) : ∃ j : Nat, i = (j : Int) + 1 ∧ wroteAt xs j = true ∧ ∃ T, lkp M.all i = some T ∧ T.time = t ∧ T.buf.data = d := by
  unfold com at hc
  cases hT : lkp M.all i with
  | none => rw [hT] at hc; cases hc
  | some T =>
    rw [hT] at hc
    simp only at hc
    split at hc
    · rename_i hs
      cases hc
      have hk := (wf.hs i).1 (by rw [hT]; rfl)
      have hl := h.len
      obtain ⟨j, rfl⟩ : ∃ j : Nat, i = (j : Int) + 1 := ⟨(i - 1).toNat, by omega⟩
      have hj : j < xs.length := by omega
      refine ⟨j, rfl, ?_, T, rfl, rfl, rfl⟩
      obtain ⟨a, b, c, e⟩ := h.h j hj
      unfold Mgr.hist at a c
      rw [hT] at a c
      simp only at a c
      unfold wroteAt
      rw [List.getElem?_eq_getElem hj]
      simp only [wroteX, Bool.and_eq_true, decide_eq_true_eq]
      refine ⟨by omega, ?_⟩
      rw [e, c, puts_length]
      exact List.length_pos_iff.2 hs.2
    · cases hc
theorem ps_runOk {N n : Nat} {M : Mgr} {xs : List HX} (r : Rep M) (ok : MgrOk N M) (wf : Wf M.queue M) (h : Hist M n xs) (j : Nat) (hw : wroteAt xs j = true) : RunOk 20 (psX xs j) ∧ (psX xs j).length ≤ 2 ^ 20 := by
  obtain ⟨hj, T, hT, _, hne, _, e⟩ := hist_wrote h hw
  obtain ⟨B, I, _⟩ := ok
  have t := (I.trn hT).buf
  have hb := r.bl
  rw [e]
  refine ⟨⟨fun x hx => ?_, fun x hx => ?_, rise_nodup (putsRise (wf.bn _ T hT) hne)⟩, by rw [puts_length]; have := t.len; omega⟩
  · have := (t.data _ (lkp_mem (mem_puts.1 hx))).1
    simp only at this; omega
  · exact (t.data _ (lkp_mem (mem_puts.1 hx))).2
theorem replay_eq {N n : Nat} {M : Mgr} {xs : List HX} {o : List Nat} (r : Rep M) (ok : MgrOk N M) (wf : Wf M.queue M) (h : Hist M n xs) (hn : M.book.last ≤ n) (ho : Ord xs xs.length o) : replL xs o = runL (List.replicate 20 []) M.m.dump := by
  have hok : ∀ j ∈ o, RunOk 20 (psX xs j) := fun j hj => (ps_runOk r ok wf h j (ho.mem hj).2).1
  have dok := dump_runOk r ok wf.vo
  have h0 : ∀ q ∈ M.m.vers, 0 < q.2.length := by
    obtain ⟨B, I, _⟩ := ok
    exact fun q hq => (I.vers.2.2 q hq).2.1
  apply List.ext_getElem?
  intro k
  by_cases hk : k < 20
  · cases hv : lastV M.m (k : Int) with
    | none =>
      have e1 : (replL xs o)[k]? = (List.replicate 20 ([] : List UInt8))[k]? := by
        refine repl_not o _ hok fun j hj x hx e => ?_
        obtain ⟨_, T, hT, hs, hne, _, e2⟩ := hist_wrote h (ho.mem hj).2
        have hc : com M ((j : Int) + 1) = some (T.time, T.buf.data) := by unfold com; rw [hT]; simp only; rw [if_pos ⟨hs, hne⟩]
        have := r.non _ hv _ _ _ hc
        rw [e2] at hx
        have h3 := mem_puts.1 hx
        rw [e, this] at h3; cases h3
      have e2 : (runL (List.replicate 20 []) M.m.dump)[k]? = (List.replicate 20 ([] : List UInt8))[k]? := by
        refine runL_not _ _ (fun x hx => (dok.lba x hx).1) fun x hx e => ?_
        obtain ⟨a, _⟩ := mem_dump.1 hx
        have := (key_last wf.vo h0 _).1 a
        rw [e, hv] at this; cases this
      rw [e1, e2]
    | some v =>
      have e2 : (runL (List.replicate 20 []) M.m.dump)[k]? = some v.data := runL_mem (p := ⟨(k : Int), v.data⟩) _ _ dok.nd (fun x hx => by have := dok.lba x hx; rw [List.length_replicate]; exact this) (dump_last wf.vo h0 hv) rfl
      rw [e2]
      obtain ⟨i, t, d, hc, hd, hlast⟩ := r.top _ v hv
      obtain ⟨j, rfl, hw, T, hT, ht, htd⟩ := hist_com h wf hn hc
      obtain ⟨hjl, T', hT', _, _, tm, ps⟩ := hist_wrote h hw
      rw [hT] at hT'; cases hT'
      have hjo : j ∈ o := ho.perm.mem_iff.2 (by simp [hw, hjl])
      have hnd : o.Nodup := ho.perm.nodup_iff.2 (List.nodup_range.filter _)
      obtain ⟨o1, o2, rfl⟩ := List.append_of_mem hjo
      unfold replL
      rw [List.foldl_append, List.foldl_cons, repl_not o2 _ (fun i hi => hok i (by simp [hi])) fun i hi x hx e => ?_]
      · have okj := hok j hjo
        refine runL_mem (p := ⟨(k : Int), v.data⟩) _ _ okj.nd (fun x hx => ?_) ?_ rfl
        · rw [repl_len, List.length_replicate]; exact okj.lba x hx
        · rw [ps]
          refine mem_puts.2 ?_
          rw [htd]; exact hd
      · obtain ⟨_, T2, hT2, hs2, hne2, tm2, ps2⟩ := hist_wrote h (ho.mem (j := i) (by simp [hi])).2
        have hc2 : com M ((i : Int) + 1) = some (T2.time, T2.buf.data) := by unfold com; rw [hT2]; simp only; rw [if_pos ⟨hs2, hne2⟩]
        rw [ps2] at hx
        have h3 := mem_puts.1 hx
        rw [e] at h3
        have hij : i ≠ j := fun e2 => by
          subst e2
          rw [List.nodup_append] at hnd
          exact (List.nodup_cons.1 hnd.2.1).1 hi
        have hlt := hlast _ _ _ hc2 (by omega) (by rw [h3]; rfl)
        have hso := (List.pairwise_append.1 ho.sorted).2.1
        have := (List.pairwise_cons.1 hso).1 i hi
        rw [tm, tm2] at this
        omega
  · have l1 : (replL xs o).length = 20 := replL_length xs o
    have l2 : (runL (List.replicate 20 []) M.m.dump).length = 20 := by rw [runL_length, List.length_replicate]
    rw [List.getElem?_eq_none (by omega), List.getElem?_eq_none (by omega)]
theorem runL_lens {l : List Put} : ∀ {L : List (List UInt8)}, (∀ x ∈ l, x.data.length = 40) → (∀ d ∈ L, d.length ≤ 40) → ∀ d ∈ runL L l, d.length ≤ 40 := by
  induction l with
  | nil => intro L _ h; exact h
  | cons x r ih =>
    intro L h0 h
    unfold runL at ih ⊢
    rw [List.foldl_cons]
    refine ih (fun y hy => h0 y (by simp [hy])) fun d hd => ?_
    rcases List.mem_or_eq_of_mem_set hd with e | e
    · exact h d e
    · rw [e, h0 x (by simp)]; omega
theorem allM_length : ∀ (L : List (List UInt8)) (k : Int), (allM k L).length ≤ L.length
  | [], _ => by simp [allM]
  | d :: r, k => by
    unfold allM
    have := allM_length r (k + 1)
    split
    · simp only [List.length_cons]; omega
    · simp only [List.length_cons]; omega
/-! ### Handles -/
theorem end_last (M : Mgr) (i st c : Int) : (M.end_ i st c).book.last = M.book.last := by
  unfold Mgr.end_
  split
  · rfl
  · exact (close_parts M.book i).2
theorem begin_last (M : Mgr) : M.begin.1.book.last ≤ M.book.last + 1 := by
  unfold Mgr.begin
  split
  · unfold Book.open
    repeat' split
    all_goals simp only
    all_goals omega
  · simp only; omega
theorem fold_last (code : Int) : ∀ (l : List (Int × Tx)) (M : Mgr), (l.foldl (doneOne code) M).book.last = M.book.last
  | [], _ => rfl
  | x :: r, M => by
    rw [List.foldl_cons, fold_last code r]
    unfold doneOne
    split
    · exact end_last _ _ _ _
    · exact end_last _ _ _ _
theorem stp_last (M : Mgr) (t : Stp) : (stpM M t).book.last ≤ M.book.last + if t.kind = 1 then 1 else 0 := by
  unfold stpM
  split
  · exact begin_last M
  split
  · unfold Mgr.readE; split <;> simp
  split
  · unfold Mgr.write; split <;> simp
  split
  · unfold Mgr.commit
    repeat' split
    all_goals simp [end_last]
  split
  · unfold Mgr.abort; split
    · simp
    · simp [end_last]
  split
  · unfold Mgr.batch; repeat' split
    all_goals simp
  split
  · unfold Mgr.done; split
    · simp
    · simp [fold_last]
  split
  · simp
  split
  · exact Int.le_of_eq (by simp [Mgr.prune])
  · simp
end Go.Proofs.YtbolgpjcmchfoaaGreat
