/- The law 'TxnReaders', walked. -/
import Derived.Test.YtbolgpjcmchfoaaGreatZ
import Derived.Test.YtbolgpjcmchfoaaGreatLn
namespace Go.Mo
open Go Go.Sl
/-- What most calls leave as it is. -/
structure Stay (M N : Mgr) : Prop where
  bl : N.m.blocks = M.m.blocks
  gv : N.given = M.given
  rd : N.read = M.read
  bk : N.book.last = M.book.last
theorem Stay.refl (M : Mgr) : Stay M M := ⟨rfl, rfl, rfl, rfl⟩
theorem Stay.trans {L M N : Mgr} (a : Stay L M) (b : Stay M N) : Stay L N := ⟨b.bl.trans a.bl, b.gv.trans a.gv, b.rd.trans a.rd, b.bk.trans a.bk⟩
theorem close_last (B : Book) (i : Int) : (B.close i).1.last = B.last := by unfold Book.close; split <;> rfl
theorem stay_end (M : Mgr) (i st code : Int) : Stay M (M.end_ i st code) := by
  unfold Mgr.end_
  split
  · exact Stay.refl M
  · exact ⟨rfl, rfl, rfl, close_last _ _⟩
theorem blocks_apply (m : XMap) (t : Tx) : (m.apply t).1.blocks = m.blocks := by
  unfold XMap.apply; repeat' split
  all_goals rfl
theorem stay_one (code : Int) (M : Mgr) (x : Int × Tx) : Stay M (doneOne code M x) := by
  unfold doneOne
  split
  · exact stay_end M _ _ _
  · exact Stay.trans (M := { M with m := (M.m.apply x.2).1, last := x.2.time }) ⟨blocks_apply _ _, rfl, rfl, rfl⟩ (stay_end _ _ _ _)
theorem stay_fold (code : Int) : ∀ (l : List (Int × Tx)) (M : Mgr), Stay M (l.foldl (doneOne code) M)
  | [], M => Stay.refl M
  | x :: r, M => (stay_one code M x).trans (stay_fold code r _)
theorem stay_done (M : Mgr) (code : Int) : Stay M (M.done code).1 := by
  unfold Mgr.done
  split
  · exact Stay.refl M
  · obtain ⟨a, b, c, d⟩ := stay_fold code ((M.queue.take M.out.toNat).zip (M.waiting.take M.out.toNat)) M
    exact ⟨a, b, c, d⟩
theorem stay_abort (M : Mgr) (i : Int) : Stay M (M.abort i).1 := by
  unfold Mgr.abort
  split
  · exact Stay.refl M
  · exact stay_end M _ _ _
theorem stay_write (M : Mgr) (i : Int) (l : List Put) : Stay M (M.write i l).1 := by
  unfold Mgr.write
  split
  · exact Stay.refl M
  · exact ⟨rfl, rfl, rfl, rfl⟩
theorem stay_read (M : Mgr) (i : Int) (e : Ext) : Stay M (M.readE i e).1 := by
  unfold Mgr.readE
  split
  · exact Stay.refl M
  · exact ⟨rfl, rfl, rfl, rfl⟩
theorem stay_batch (M : Mgr) : Stay M M.batch.1 := by
  unfold Mgr.batch
  split
  · exact Stay.refl M
  · split
    · exact Stay.refl M
    · exact ⟨rfl, rfl, rfl, rfl⟩
theorem stay_prune (M : Mgr) : Stay M M.prune.1 := ⟨rfl, rfl, rfl, rfl⟩
theorem commit_rest (M : Mgr) (i : Int) : (M.commit i).1.m = M.m ∧ (M.commit i).1.last = M.last ∧ (M.commit i).1.read = M.read ∧ (M.commit i).1.book.last = M.book.last ∧ (M.commit i).1.out = M.out ∧ ((M.commit i).1.given = M.given ∨ (M.commit i).1.given = M.given + 1) := by
  unfold Mgr.commit
  split
  · exact ⟨rfl, rfl, rfl, rfl, rfl, .inl rfl⟩
  · split
    · obtain ⟨a, b, c, d⟩ := stay_end ({ M with all := put M.all i _ } : Mgr) i 3 0
      obtain ⟨e, f, g⟩ := end_parts ({ M with all := put M.all i _ } : Mgr) i 3 0
      exact ⟨e, f, c, d, by unfold Mgr.end_; split <;> rfl, .inl g⟩
    · split
      · obtain ⟨a, b, c, d⟩ := stay_end M i 4 (M.may _)
        obtain ⟨e, f, g⟩ := end_parts M i 4 (M.may _)
        exact ⟨e, f, c, d, by unfold Mgr.end_; split <;> rfl, .inl g⟩
      · exact ⟨rfl, rfl, rfl, rfl, rfl, .inr rfl⟩
theorem begin_rest (M : Mgr) : M.begin.1.m = M.m ∧ M.begin.1.last = M.last ∧ M.begin.1.read = M.read ∧ M.begin.1.given = M.given ∧ M.begin.1.out = M.out ∧ M.begin.1.queue = M.queue ∧ (M.begin.1.book.last = M.book.last ∨ M.begin.1.book.last = M.book.last + 1) := by
  unfold Mgr.begin
  split
  · refine ⟨rfl, rfl, rfl, rfl, rfl, rfl, ?_⟩
    unfold Book.open
    repeat' split
    all_goals first | exact .inl rfl | exact .inr rfl
  · exact ⟨rfl, rfl, rfl, rfl, rfl, rfl, .inl rfl⟩
/-! ### Who is not touched -/
theorem begin_all {M : Mgr} {k : Int} (hk : k ≤ M.book.last) : lkp M.begin.1.all k = lkp M.all k := by
  unfold Mgr.begin
  split
  · rename_i ho
    unfold Book.open at ho ⊢
    split at ho
    · simp at ho
    · rename_i h1
      split at ho
      · simp at ho
      · rename_i h2
        rw [if_neg h1, if_neg h2]
        simp only [lkp_put]
        rw [if_neg (by omega)]
  · rfl
theorem write_all {M : Mgr} {i k : Int} {l : List Put} (hk : k ≠ i) : lkp (M.write i l).1.all k = lkp M.all k := by
  unfold Mgr.write
  split
  · rfl
  · simp only [lkp_put, if_neg hk]
theorem read_all {M : Mgr} {i k : Int} {e : Ext} (hk : k ≠ i) : lkp (M.readE i e).1.all k = lkp M.all k := by
  unfold Mgr.readE
  split
  · rfl
  · simp only [lkp_put, if_neg hk]
theorem abort_all {M : Mgr} {i k : Int} (hk : k ≠ i) : lkp (M.abort i).1.all k = lkp M.all k := by
  unfold Mgr.abort
  split
  · rfl
  · exact end_all hk
theorem commit_all {M : Mgr} {i k : Int} (hk : k ≠ i) : lkp (M.commit i).1.all k = lkp M.all k := by
  unfold Mgr.commit
  split
  · rfl
  · split
    · rw [end_all hk]; simp only [lkp_put, if_neg hk]
    · split
      · exact end_all hk
      · simp only [lkp_put, if_neg hk]
theorem one_all {M : Mgr} {code k : Int} {x : Int × Tx} (hk : k ≠ x.1) : lkp (doneOne code M x).all k = lkp M.all k := by
  unfold doneOne
  split
  · exact end_all hk
  · exact end_all hk
theorem fold_all {code k : Int} : ∀ (l : List (Int × Tx)) (M : Mgr), k ∉ l.map Prod.fst → lkp (l.foldl (doneOne code) M).all k = lkp M.all k
  | [], _, _ => rfl
  | x :: r, M, h => by
    simp only [List.map_cons, List.mem_cons, not_or] at h
    rw [List.foldl_cons, fold_all r _ h.2, one_all h.1]
theorem done_all {M : Mgr} {code k : Int} (hk : k ∉ M.queue) : lkp (M.done code).1.all k = lkp M.all k := by
  unfold Mgr.done
  split
  · rfl
  · refine fold_all _ _ fun h => hk ?_
    obtain ⟨x, hx, rfl⟩ := List.mem_map.1 h
    exact List.mem_of_mem_take (List.of_mem_zip (show (x.1, x.2) ∈ _ from hx)).1
theorem batch_all (M : Mgr) : M.batch.1.all = M.all ∧ M.batch.1.queue = M.queue ∧ M.batch.1.m = M.m ∧ M.batch.1.last = M.last ∧ M.batch.1.book = M.book := by
  unfold Mgr.batch
  split
  · exact ⟨rfl, rfl, rfl, rfl, rfl⟩
  · split <;> exact ⟨rfl, rfl, rfl, rfl, rfl⟩
theorem done_out (M : Mgr) (code : Int) : (M.done code).1.out = 0 := by
  unfold Mgr.done
  split
  · assumption
  · rfl
theorem load_out (M : Mgr) (l : List Put) : (M.load l).1.out = M.out := by
  unfold Mgr.load
  repeat' split
  all_goals rfl
/-! ### While others do what they do -/
structure Calm1 (i : Nat) (M : Mgr) : Prop where
  wf : Wf M.queue M
  out : M.out = 0
  bl : M.m.blocks = 20
  lb : M.book.last ≤ (i : Int) + 1
  gv : M.given ≤ i
  one : ∃ T, lkp M.all 1 = some T ∧ T.state = 1 ∧ T.buf.data = [] ∧ T.at_ = 0
section
variable {i : Nat} {M : Mgr}
theorem Calm1.mono (h : Calm1 i M) {j : Nat} (hj : i ≤ j) : Calm1 j M := ⟨h.wf, h.out, h.bl, by have := h.lb; omega, by have := h.gv; omega, h.one⟩
theorem Calm1.last1 (h : Calm1 i M) : 1 ≤ M.book.last := by
  obtain ⟨T, hT, _⟩ := h.one
  exact ((h.wf.hs 1).1 (by rw [hT]; rfl)).2
theorem Calm1.not1 (h : Calm1 i M) : (1 : Int) ∉ M.queue := by
  obtain ⟨T, hT, hs, _⟩ := h.one
  exact h.wf.notQ hT (by omega)
theorem calm_begin (h : Calm1 i M) : Calm1 (i + 1) M.begin.1 := by
  obtain ⟨a, b, c, d, e, f, g⟩ := begin_rest M
  refine ⟨by rw [f]; exact wf_begin h.wf, by rw [e]; exact h.out, by rw [a]; exact h.bl, by have := h.lb; omega, by have := h.gv; omega, ?_⟩
  rw [begin_all h.last1]; exact h.one
theorem calm_read (h : Calm1 i M) (k : Int) (e : Ext) : Calm1 i (M.readE k e).1 := by
  have s := stay_read M k e
  have hq : (M.readE k e).1.queue = M.queue ∧ (M.readE k e).1.out = M.out := by unfold Mgr.readE; split <;> exact ⟨rfl, rfl⟩
  refine ⟨by rw [hq.1]; exact wf_read h.wf k e, by rw [hq.2]; exact h.out, by rw [s.bl]; exact h.bl, by rw [s.bk]; exact h.lb, by rw [s.gv]; exact h.gv, ?_⟩
  by_cases hk : 1 = k
  · subst hk
    obtain ⟨T, hT, h1, h2, h3⟩ := h.one
    unfold Mgr.readE Mgr.opn
    rw [hT]
    simp only [h1, if_pos, lkp_put]
    exact ⟨_, rfl, rfl, h2, h3⟩
  · rw [read_all hk]; exact h.one
theorem calm_write (h : Calm1 i M) {k : Int} (hk : 1 ≠ k) (l : List Put) : Calm1 i (M.write k l).1 := by
  have s := stay_write M k l
  have hq : (M.write k l).1.queue = M.queue ∧ (M.write k l).1.out = M.out := by unfold Mgr.write; split <;> exact ⟨rfl, rfl⟩
  refine ⟨by rw [hq.1]; exact wf_write h.wf k l, by rw [hq.2]; exact h.out, by rw [s.bl]; exact h.bl, by rw [s.bk]; exact h.lb, by rw [s.gv]; exact h.gv, ?_⟩
  rw [write_all hk]; exact h.one
theorem calm_abort (h : Calm1 i M) {k : Int} (hk : 1 ≠ k) : Calm1 i (M.abort k).1 := by
  have s := stay_abort M k
  have hq : (M.abort k).1.queue = M.queue ∧ (M.abort k).1.out = M.out := by
    unfold Mgr.abort; split
    · exact ⟨rfl, rfl⟩
    · unfold Mgr.end_; split <;> exact ⟨rfl, rfl⟩
  refine ⟨by rw [hq.1]; exact wf_abort h.wf k, by rw [hq.2]; exact h.out, by rw [s.bl]; exact h.bl, by rw [s.bk]; exact h.lb, by rw [s.gv]; exact h.gv, ?_⟩
  rw [abort_all hk]; exact h.one
theorem calm_commit (h : Calm1 i M) {k : Int} (hk : 1 ≠ k) : Calm1 (i + 1) (M.commit k).1 := by
  obtain ⟨a, b, c, d, e, f⟩ := commit_rest M k
  have := h.lb
  have := h.gv
  refine ⟨wf_commit h.wf k, by rw [e]; exact h.out, by rw [a]; exact h.bl, by omega, by omega, ?_⟩
  rw [commit_all hk]; exact h.one
theorem calm_ro (h : Calm1 i M) (b : Bool) : Calm1 i { M with read := b } := ⟨wf_ro h.wf b, h.out, h.bl, h.lb, h.gv, h.one⟩
theorem calm_prune (h : Calm1 i M) : Calm1 i M.prune.1 := ⟨wf_prune h.wf, h.out, h.bl, h.lb, h.gv, h.one⟩
theorem calm_flush (h : Calm1 i M) (code : Int) : Calm1 i (M.batch.1.done code).1 := by
  have s := (stay_batch M).trans (stay_done M.batch.1 code)
  obtain ⟨a, b, c, d, e⟩ := batch_all M
  have hw : Wf M.batch.1.queue M.batch.1 := by rw [b]; exact wf_batch h.wf
  refine ⟨wf_done hw code, done_out _ _, by rw [s.bl]; exact h.bl, by rw [s.bk]; exact h.lb, by rw [s.gv]; exact h.gv, ?_⟩
  rw [done_all (by rw [b]; exact h.not1), a]; exact h.one
end
/-! ### When all others end -/
structure Calm2 (M : Mgr) : Prop where
  wf : Wf M.queue M
  out : M.out = 0
  bl : M.m.blocks = 20
  lb : M.book.last ≤ 200
  gv : M.given ≤ 1000
  ro : M.read = false
theorem formL_pos {l : List Tx} (h : l ≠ []) : ∀ p, 1 ≤ formL l p 0 := fun p => by
  cases l with
  | nil => exact absurd rfl h
  | cons t r =>
    simp only [formL]
    rw [if_neg (by omega)]
    have key : ∀ (l : List Tx) (p n : Int), n ≤ formL l p n := by
      intro l
      induction l with
      | nil => intro p n; exact Int.le_refl _
      | cons t r ih =>
        intro p n
        simp only [formL]
        split
        · exact Int.le_refl _
        · have := ih (p + (t.puts.length : Nat)) (n + 1); omega
    have := key r (p + (t.puts.length : Nat)) (0 + 1)
    omega
theorem calm2_flush {M : Mgr} (h : Calm2 M) : Calm2 (M.batch.1.done 0).1 ∧ ∀ j, M.queue.length ≤ j + 1 → (M.batch.1.done 0).1.queue.length ≤ j := by
  have s := (stay_batch M).trans (stay_done M.batch.1 0)
  obtain ⟨a, b, c, d, e⟩ := batch_all M
  have hw : Wf M.batch.1.queue M.batch.1 := by rw [b]; exact wf_batch h.wf
  refine ⟨⟨wf_done hw 0, done_out _ _, by rw [s.bl]; exact h.bl, by rw [s.bk]; exact h.lb, by rw [s.gv]; exact h.gv, by rw [s.rd]; exact h.ro⟩, fun j hj => ?_⟩
  by_cases hq : M.queue.length = 0
  · have : (M.batch.1.done 0).1.queue = M.queue := by
      unfold Mgr.batch
      rw [if_neg (by rw [h.out]; omega), if_pos hq]
      unfold Mgr.done
      rw [if_pos h.out]
    rw [this, hq]; omega
  · have hwne : M.waiting ≠ [] := by
      rw [h.wf.waiting]
      intro he
      rw [List.map_eq_nil_iff] at he
      rw [he] at hq; exact hq rfl
    have hf := formL_pos hwne 0
    have hbo : M.batch.1.out = formL M.waiting 0 0 := by
      unfold Mgr.batch
      rw [if_neg (by rw [h.out]; omega), if_neg hq]
    have : (M.batch.1.done 0).1.queue = M.batch.1.queue.drop M.batch.1.out.toNat := by
      unfold Mgr.done
      rw [if_neg (by rw [hbo]; omega)]
    rw [this, List.length_drop, b, hbo]
    omega
theorem Wf.short {Q : List Int} {M : Mgr} (h : Wf Q M) (hb : M.book.times.length ≤ 16) : Q.length ≤ 16 := by
  have hsub : ∀ k ∈ Q, k ∈ M.book.times.map Prod.fst := fun k hk => by
    obtain ⟨T, hT, hs⟩ := (h.qs k).1 hk
    have := (h.tk k T.at_).2 ⟨T, hT, .inr hs, rfl⟩
    exact List.mem_map.2 ⟨_, lkp_mem this, rfl⟩
  have key : ∀ (a b : List Int), a.Nodup → (∀ k ∈ a, k ∈ b) → a.length ≤ b.length := by
    intro a
    induction a with
    | nil => intro b _ _; simp
    | cons x r ih =>
      intro b hn hs
      rw [List.nodup_cons] at hn
      have h1 := ih (b.erase x) hn.2 fun k hk => (List.mem_erase_of_ne (fun e => hn.1 (by rw [← e]; exact hk))).2 (hs k (by simp [hk]))
      have h2 := List.length_erase_of_mem (hs x (by simp))
      have h3 := List.length_pos_of_mem (hs x (by simp))
      simp only [List.length_cons]
      omega
  have := key Q (M.book.times.map Prod.fst) h.qn hsub
  rw [List.length_map] at this
  omega
theorem calm2_abort {M : Mgr} (h : Calm2 M) (k : Int) : Calm2 (M.abort k).1 ∧ (M.abort k).1.queue = M.queue ∧ ∀ T, lkp (M.abort k).1.all k = some T → T.state ≠ 1 := by
  have s := stay_abort M k
  have hq : (M.abort k).1.queue = M.queue ∧ (M.abort k).1.out = M.out := by
    unfold Mgr.abort; split
    · exact ⟨rfl, rfl⟩
    · unfold Mgr.end_; split <;> exact ⟨rfl, rfl⟩
  refine ⟨⟨by rw [hq.1]; exact wf_abort h.wf k, by rw [hq.2]; exact h.out, by rw [s.bl]; exact h.bl, by rw [s.bk]; exact h.lb, by rw [s.gv]; exact h.gv, by rw [s.rd]; exact h.ro⟩, hq.1, fun T hT h1 => ?_⟩
  unfold Mgr.abort at hT
  cases ho : M.opn k with
  | none =>
    rw [ho] at hT
    simp only at hT
    unfold Mgr.opn at ho
    rw [hT] at ho
    simp [h1] at ho
  | some T0 =>
    rw [ho] at hT
    simp only at hT
    obtain ⟨h2, h3⟩ := opn_of_lkp ho
    unfold Mgr.end_ at hT
    rw [h2] at hT
    simp only [lkp_put, if_pos] at hT
    cases hT
    simp at h1
theorem all_ended {M : Mgr} (h : Calm2 M) (hq : M.queue = []) (hn : ∀ k, 1 ≤ k → k ≤ 200 → ∀ T, lkp M.all k = some T → T.state ≠ 1) : M.book.times = [] := by
  cases e : M.book.times with
  | nil => rfl
  | cons p r =>
    exfalso
    have h1 : lkp M.book.times p.1 = some p.2 := by rw [e]; simp [lkp]
    obtain ⟨T, hT, hs, _⟩ := (h.wf.tk p.1 p.2).1 h1
    have hb := (h.wf.hs p.1).1 (by rw [hT]; rfl)
    have lb := h.lb
    rcases hs with hs | hs
    · exact hn p.1 hb.1 (by omega) T hT hs
    · have := (h.wf.qs p.1).2 ⟨T, hT, hs⟩
      rw [hq] at this; simp at this
/-- One that runs alone is committed. -/
theorem alone_commit {M : Mgr} {k : Int} {T : Trn} (wf : Wf [] M) (hq : M.queue = []) (ho : M.opn k = some T) (ha : T.at_ = M.last) (hd : T.buf.data ≠ []) (hr : M.read = false) (hg : M.given ≤ 1000) (hl : 0 ≤ M.last) : (M.commit k).2 = 0 := by
  have hw : M.waiting = [] := by unfold Mgr.waiting; rw [hq]; rfl
  have hv : validM M.m M.waiting T.at_ (viewSet T.view) (bufSet T.buf) = 0 := by
    rw [hw]
    refine Go.Proofs.YtbolgpjcmchfoaaGreat.valid_none fun q hq' => ?_
    obtain ⟨_, b⟩ := wf.vo.2 q hq'
    have ml := wf.ml
    rw [ha]
    unfold lastT
    cases e : q.2 with
    | nil => simp only [List.getLastD_nil]; omega
    | cons v r =>
      have := b ((v :: r).getLastD ⟨0, []⟩) (by rw [e, List.getLastD_eq_getLast?, List.getLast?_eq_some_getLast (by simp)]; exact List.getLast_mem _)
      omega
  have hm : M.may T = 0 := by
    unfold Mgr.may
    rw [hr, hv]
    simp; omega
  unfold Mgr.commit
  rw [ho]
  simp only
  rw [if_neg (by rw [List.length_eq_zero_iff]; exact hd), hm]
  simp
end Go.Mo
namespace Go.Proofs.YtbolgpjcmchfoaaGreat
open Go Go.Vc Go.Sl Go.Mo
theorem own_commit {M : Mgr} {T : Trn} (h : lkp M.all 1 = some T) (h1 : T.state = 1) (h2 : T.buf.data = []) (h3 : T.at_ = 0) : (M.commit 1).2 = 0 ∧ (M.commit 1).1.result 1 = (3, 0, 0) := by
  have ho : M.opn 1 = some T := by unfold Mgr.opn; rw [h]; simp [h1]
  unfold Mgr.commit
  rw [ho]
  simp only
  rw [if_pos (by rw [h2]; rfl)]
  refine ⟨rfl, ?_⟩
  unfold Mgr.end_ Mgr.result
  simp [lkp_put, h3]
theorem stp_cells_le {h g : Heap} (hg : le h g) {t : Stp} {ad : Addr} {d : SV} (b : ∀ j, j < 6 → cellH h (ad.add j) = (stpCells t d)[j]?) : ∀ j, j < 6 → cellH g (ad.add j) = (stpCells t d)[j]? := fun j hj => by
  have h1 := b j hj
  have hlt : j < (stpCells t d).length := hj
  rw [List.getElem?_eq_getElem hlt] at h1 ⊢
  exact cellH_le hg h1
theorem read_keep (M : Mgr) (i : Int) (e : Ext) : (M.readE i e).1.queue = M.queue ∧ (M.readE i e).1.last = M.last ∧ ∀ T, M.opn i = some T → ∃ V, (M.readE i e).1.opn i = some { T with view := V } := by
  unfold Mgr.readE
  split
  · rename_i h; exact ⟨rfl, rfl, fun T hT => by rw [h] at hT; cases hT⟩
  · rename_i T hT
    refine ⟨rfl, rfl, fun T' hT' => ?_⟩
    rw [hT] at hT'; cases hT'
    obtain ⟨h1, h2⟩ := opn_lkp hT
    refine ⟨(T.view.read M.m T.buf e).1, ?_⟩
    unfold Mgr.opn
    simp only [lkp_put, if_pos, h2]
/-- One write of one that is open. -/
theorem write_new {M : Mgr} {i : Int} {T : Trn} {x : Put} (ho : M.opn i = some T) (hb : T.buf = ⟨20, 16, []⟩) (hx : 0 ≤ x.lba ∧ x.lba < 20) (hd : x.data.length = 40) : (M.write i [x]).2 = 0 ∧ (M.write i [x]).1.queue = M.queue ∧ (M.write i [x]).1.last = M.last ∧ (M.write i [x]).1.opn i = some { T with buf := ⟨20, 16, [(x.lba, x.data)]⟩ } := by
  have hw : T.buf.write [x] = (⟨20, 16, [(x.lba, x.data)]⟩, 0) := by
    rw [hb]
    have h1 : outOf 20 x = false := by simp [outOf]; omega
    have h2 : badLen x = false := by simp [badLen, hd]
    unfold Buf.write
    rw [if_neg (by simp), if_neg (by simp [h1]), if_neg (by simp [h2]), if_neg (by simp [twiceM]), if_neg (by simp [newOnes, lkp])]
    rfl
  unfold Mgr.write
  rw [ho]
  simp only [hw]
  refine ⟨trivial, trivial, trivial, ?_⟩
  obtain ⟨h1, h2⟩ := opn_lkp ho
  unfold Mgr.opn
  simp only [lkp_put, if_pos, h2]
set_option maxRecDepth 20000 in
set_option maxHeartbeats 1000000 in
theorem readers_c {s : SV} {l : List Stp} {e : Ext} {w : World} {K : Bool → World → Prop} (hs : StepsArg w s l) (hk : ∀ w', Keep w w' → K true w') : c_scarplaw23_TxnReaders s e.first e.len w K := by
  refine scarplaw23_TxnReaders_go ?_
  unfold f_scarplaw23_TxnReaders
  rw [withW_iff]
  have h1 := (sat_whole w).alloc (.cells #[.int .i64 e.first, .int .i64 e.len] 56)
  have k1 := Keep.alloc w (.cells #[.int .i64 e.first, .int .i64 e.len] 56)
  generalize w.alloc (.cells #[.int .i64 e.first, .int .i64 e.len] 56) = w1 at h1 k1 ⊢
  generalize w.heap.size = eb at h1 ⊢
  have c0 := h1.cell 0
  have c1 := h1.cell 1
  refine small_c (stepsOn_le (keep_le k1) hs.1) fun b w3 k3 hsm => ?_
  have k13 := k1.trans k3
  have hsn := hs.1.1
  cases b with
  | false => exact bsplit_iff.2 ⟨fun _ => awake_c fun w' k' => hk _ (k13.trans k'), fun e => (by cases e)⟩
  | true =>
  obtain ⟨hlen, hlp⟩ := hsm rfl
  refine bsplit_iff.2 ⟨fun e => (by cases e), fun _ => ?_⟩
  refine mgr_new (n := 20) (last := 0) (sat_whole w3) (by omega) (by omega) fun p w7 h7 => ?_
  refine bsplit_iff.2 ⟨fun e => (by cases e), fun _ => bsplit_iff.2 ⟨fun e => (by cases e), fun _ => ?_⟩⟩
  refine ok_begin h7 (mgrOk_new (by omega) (by omega)) (by omega) fun w9 ok9 h9 => ?_
  have calm0 : Calm1 0 (Mgr.new 20 0).begin.1 := by
    refine ⟨wf_begin (wf_new (by omega)), rfl, rfl, by decide, by decide, freshT (Mgr.new 20 0), rfl, rfl, rfl, rfl⟩
  have hb2 : (Mgr.new 20 0).begin.2 = (1, 0) := rfl
  rw [hb2]
  refine bsplit_iff.2 ⟨fun e => (by simp at e), fun _ => ?_⟩
  dsimp only
  refine loop_i (fun (x : Int) w' => ∃ (i : Nat) (M : Mgr), x = i ∧ i ≤ l.length ∧ MgrOk (1 + 2 * i) M ∧ Calm1 i M ∧ Sat (mgrA (some ⟨p, 0, none⟩) M * whole w3) w') (fun x _ => (l.length - x).toNat) ⟨0, _, rfl, by omega, ok9, calm0, h9⟩ ?_
  rintro x w11 ⟨i, M, rfl, hi, ok11, calm11, h11⟩
  rw [hsn]
  refine bsplit_decide.2 ⟨fun hlt => ?_, fun hge => ?_⟩
  · have hi' : i < l.length := by omega
    have kw := Keep.whole h11.right
    obtain ⟨ad, d, ha, hc3, hd⟩ := (stepsOn_le (keep_le k13) hs.1).2 i hi'
    have hc := stp_cells_le (keep_le kw) hc3
    clear hc3
    have hdl := hlp _ (List.getElem_mem hi')
    have e1 : IntKind.i64.wrap ((i : Int) + 1) = ((i + 1 : Nat) : Int) := by rw [wrap_of (by omega) (by omega)]; omega
    have ht0 := hc 0 (by omega)
    rw [add0] at ht0
    generalize l[i] = t at hc hd hdl ht0
    rw [e1]
    refine ⟨by omega, by omega, onP_i ha ⟨(t.kind, t.h, t.e.first, t.e.len, d, t.n), ⟨ht0, hc 1 (by omega), hc 2 (by omega), hc 3 (by omega), hc 4 (by omega), hc 5 (by omega)⟩, ?_⟩⟩
    refine box6 h11 fun w16 h16 => ?_
    generalize w11.heap.size = sb at h16 ⊢
    simp only [add_mk, Nat.zero_add]
    refine ⟨t.h, (objA_cells h16).1 1, bsplit_decide.2 ⟨?_, ?_⟩⟩
    intro g1
    refine ⟨⟨⟨_, (objA_cells h16).1 1⟩, (objA_cells h16).2 1⟩, trivial, ?_⟩
    have h18' := objA_set h16 1 (.int .i64 0)
    rw [withW_iff]
    generalize w16.setCell ⟨sb, 1, none⟩ (.int .i64 0) = w18 at h18' ⊢
    simp only [List.set_cons_succ, List.set_cons_zero] at h18'
    obtain ⟨hh, hne, h18⟩ : ∃ hh : Int, 1 ≠ hh ∧ Sat (objA (some ⟨sb, 0, none⟩) [.int .i64 t.kind, .int .i64 hh, .int .i64 t.e.first, .int .i64 t.e.len, .slice d.a d.n d.c, .int .i64 t.n] * (mgrA (some ⟨p, 0, none⟩) M * whole w3)) w18 := ⟨0, by omega, h18'⟩
    clear h18'
    rotate_left
    intro g1
    obtain ⟨hh, hne, h18⟩ : ∃ hh : Int, 1 ≠ hh ∧ Sat (objA (some ⟨sb, 0, none⟩) [.int .i64 t.kind, .int .i64 hh, .int .i64 t.e.first, .int .i64 t.e.len, .slice d.a d.n d.c, .int .i64 t.n] * (mgrA (some ⟨p, 0, none⟩) M * whole w3)) w16 := ⟨t.h, fun h => g1 h.symm, h16⟩
    all_goals (
      have k18 := k3.trans (Keep.whole h18.right.right)
      refine ⟨(e.first, e.len), ⟨keep_cell k18 c0, keep_cell k18 c1⟩, ?_⟩
      refine ok_read (e := e) (h18.eq (by ac_rfl : _ = mgrA (some ⟨p, 0, none⟩) M * (objA (some ⟨sb, 0, none⟩) [.int .i64 t.kind, .int .i64 hh, .int .i64 t.e.first, .int .i64 t.e.len, .slice d.a d.n d.c, .int .i64 t.n] * whole w3))) ok11 (by omega) fun s20 w21 ok21 h21' => ?_
      have calm21 := calm_read calm11 1 e
      have h21 := h21'.right
      clear h21'
      generalize (M.readE 1 e).1 = N at ok21 h21 calm21
      have hc21 := (objA_cells (h21.eq (by ac_rfl : _ = objA (some ⟨sb, 0, none⟩) [.int .i64 t.kind, .int .i64 hh, .int .i64 t.e.first, .int .i64 t.e.len, .slice d.a d.n d.c, .int .i64 t.n] * (mgrA (some ⟨p, 0, none⟩) N * whole w3)))).1
      have h21r : Sat (mgrA (some ⟨p, 0, none⟩) N * (objA (some ⟨sb, 0, none⟩) [.int .i64 t.kind, .int .i64 hh, .int .i64 t.e.first, .int .i64 t.e.len, .slice d.a d.n d.c, .int .i64 t.n] * whole w3)) w21 := h21
      have drop : ∀ {N' : Mgr} {w' : World}, Sat (mgrA (some ⟨p, 0, none⟩) N' * (objA (some ⟨sb, 0, none⟩) [.int .i64 t.kind, .int .i64 hh, .int .i64 t.e.first, .int .i64 t.e.len, .slice d.a d.n d.c, .int .i64 t.n] * whole w3)) w' → Sat (mgrA (some ⟨p, 0, none⟩) N' * whole w3) w' := fun {N' w'} h => (h.eq (by ac_rfl : _ = objA (some ⟨sb, 0, none⟩) [.int .i64 t.kind, .int .i64 hh, .int .i64 t.e.first, .int .i64 t.e.len, .slice d.a d.n d.c, .int .i64 t.n] * (mgrA (some ⟨p, 0, none⟩) N' * whole w3))).right
      refine ⟨t.kind, hc21 0, bsplit_decide.2 ⟨fun _ => ?_, fun _ => bsplit_decide.2 ⟨fun _ => ?_, fun _ => bsplit_decide.2 ⟨fun _ => ?_, fun _ => bsplit_decide.2 ⟨fun _ => ?_, fun _ => bsplit_decide.2 ⟨fun _ => ?_, fun _ => bsplit_decide.2 ⟨fun _ => ?_, fun _ => bsplit_decide.2 ⟨fun _ => ?_, fun _ => bsplit_decide.2 ⟨fun _ => ?_, fun _ => ?_⟩⟩⟩⟩⟩⟩⟩⟩⟩
      · exact ok_begin h21r ok21 (by omega) fun w' ok' h' => ⟨⟨i + 1, _, rfl, by omega, ok'.mono (by omega), calm_begin calm21, drop h'⟩, by omega⟩
      · refine ⟨hh, hc21 1, (t.e.first, t.e.len), ⟨hc21 2, hc21 3⟩, ?_⟩
        exact ok_read (e := t.e) h21r ok21 (by omega) fun s' w' ok' h' => ⟨⟨i + 1, _, rfl, by omega, ok'.mono (by omega), (calm_read calm21 hh t.e).mono (by omega), drop h'.right⟩, by omega⟩
      · refine ⟨hh, hc21 1, d, hc21 4, ?_⟩
        exact ok_write (l := t.l) h21r ok21 (fun w' hw' => putsOn_le (keep_le (Keep.whole hw'.right)) hd) (by omega) fun w' ok' h' => ⟨⟨i + 1, _, rfl, by omega, ok'.mono (by omega), (calm_write calm21 hne t.l).mono (by omega), drop h'⟩, by omega⟩
      · refine ⟨hh, hc21 1, ?_⟩
        exact ok_commit h21r ok21 (by omega) fun w' ok' h' => ⟨⟨i + 1, _, rfl, by omega, ok'.mono (by omega), calm_commit calm21 hne, drop h'⟩, by omega⟩
      · refine ⟨hh, hc21 1, ?_⟩
        exact ok_abort h21r ok21 fun w' ok' h' => ⟨⟨i + 1, _, rfl, by omega, ok'.mono (by omega), (calm_abort calm21 hne).mono (by omega), drop h'⟩, by omega⟩
      · refine ok_batch h21r ok21 (by omega) fun s' w' ok' h' => ?_
        exact ok_done h'.right ok' (by omega) fun w'' ok'' h'' => ⟨⟨i + 1, _, rfl, by omega, ok''.mono (by omega), (calm_flush calm21 0).mono (by omega), drop h''⟩, by omega⟩
      · refine ⟨t.n, hc21 5, trivial, by omega, ?_⟩
        exact ok_ro h21r ok21 fun w' ok' h' => ⟨⟨i + 1, _, rfl, by omega, ok'.mono (by omega), (calm_ro calm21 _).mono (by omega), drop h'⟩, by omega⟩
      · exact ok_prune h21r ok21 (by omega) fun w' ok' h' => ⟨⟨i + 1, _, rfl, by omega, ok'.mono (by omega), (calm_prune calm21).mono (by omega), drop h'⟩, by omega⟩
      · exact ⟨⟨i + 1, _, rfl, by omega, ok21.mono (by omega), calm21.mono (by omega), drop h21r⟩, by omega⟩)
  · have hi2 : i ≤ 150 := by omega
    clear hi hge
    obtain ⟨T, hT, t1, t2, t3⟩ := calm11.one
    obtain ⟨oc, orr⟩ := own_commit hT t1 t2 t3
    refine ok_commit h11 ok11 (by omega) fun w78 ok78 h78 => ?_
    rw [oc]
    refine bsplit_iff.2 ⟨fun e => (by simp at e), fun _ => ?_⟩
    refine mgr_result (i := 1) h78 fun w80 k80 => ?_
    rw [orr]
    dsimp only
    refine bsplit_iff.2 ⟨fun e => (by simp at e), fun _ => bsplit_iff.2 ⟨fun e => (by simp at e), fun _ => bsplit_iff.2 ⟨fun e => (by simp at e), fun _ => ?_⟩⟩⟩
    refine ok_ro (v := false) (k80.sat h78) ok78 fun w82 ok82 h82 => ?_
    have calm82 : Calm2 { (M.commit 1).1 with read := false } := by
      obtain ⟨a, b, c, d, e, f⟩ := commit_rest M 1
      have lb := calm11.lb
      have gv := calm11.gv
      exact ⟨wf_ro (wf_commit calm11.wf 1) false, by simp only; rw [e]; exact calm11.out, by simp only; rw [a]; exact calm11.bl, by simp only; omega, by simp only; omega, rfl⟩
    generalize ({ (M.commit 1).1 with read := false } : Mgr) = M2 at ok82 h82 calm82
    have hq16 : M2.queue.length ≤ 16 := calm82.wf.short (by obtain ⟨B, I, _⟩ := ok82; exact I.blen)
    have ok400 : MgrOk 400 M2 := ok82.mono (by omega)
    clear ok82 h78 ok78 k80 orr oc hT h11 ok11 calm11
    refine loop_i (fun (x : Int) w' => ∃ (j : Nat) (M : Mgr), x = j ∧ j ≤ 40 ∧ MgrOk (400 + j) M ∧ Calm2 M ∧ M.queue.length ≤ 16 - j ∧ Sat (mgrA (some ⟨p, 0, none⟩) M * whole w3) w') (fun x _ => (40 - x).toNat) ⟨0, M2, rfl, by omega, ok400, calm82, hq16, h82⟩ ?_
    clear h82 ok400 hq16 calm82 M2
    rintro x w84 ⟨j, M2, rfl, hj, ok84, calm84, hq, h84⟩
    refine bsplit_decide.2 ⟨fun hlt => ?_, fun hge => ?_⟩
    · refine ok_batch h84 ok84 (by omega) fun s' w' ok' h' => ?_
      refine ok_done h'.right ok' (by omega) fun w'' ok'' h'' => ?_
      have e1 : IntKind.i64.wrap ((j : Int) + 1) = ((j + 1 : Nat) : Int) := by rw [wrap_of (by omega) (by omega)]; omega
      obtain ⟨f1, f2⟩ := calm2_flush calm84
      exact ⟨⟨j + 1, _, e1, by omega, ok'', f1, f2 _ (by omega), h''⟩, by rw [e1]; omega⟩
    · have hq0 : M2.queue = [] := List.length_eq_zero_iff.1 (by omega)
      have ok440 : MgrOk 440 M2 := ok84.mono (by omega)
      refine loop_i (fun (x : Int) w' => ∃ (j : Nat) (M : Mgr), x = (j : Int) + 1 ∧ j ≤ 200 ∧ MgrOk 440 M ∧ Calm2 M ∧ M.queue = [] ∧ (∀ k, 1 ≤ k → k ≤ (j : Int) → ∀ T, lkp M.all k = some T → T.state ≠ 1) ∧ Sat (mgrA (some ⟨p, 0, none⟩) M * whole w3) w') (fun x _ => (201 - x).toNat) ⟨0, M2, rfl, by omega, ok440, calm84, hq0, fun k h1 h2 => by omega, h84⟩ ?_
      clear h84 ok84 ok440 calm84 hq hq0 hj hge M2 j
      intro x w91 hx91
      obtain ⟨j, M2, hx, hx91⟩ := hx91
      subst hx
      have hj := hx91.1
      have ok91 := hx91.2.1
      have calm91 := hx91.2.2.1
      have hq := hx91.2.2.2.1
      have hend := hx91.2.2.2.2.1
      have h91 := hx91.2.2.2.2.2
      clear hx91
      refine bsplit_decide.2 ⟨fun hlt => ?_, fun hge => ?_⟩
      · refine ok_abort h91 ok91 fun w' ok' h' => ?_
        have e1 : IntKind.i64.wrap ((j : Int) + 1 + 1) = ((j + 1 : Nat) : Int) + 1 := by rw [wrap_of (by omega) (by omega)]; omega
        obtain ⟨f1, f2, f3⟩ := calm2_abort calm91 ((j : Int) + 1)
        refine ⟨⟨j + 1, _, e1, by omega, ok', f1, by rw [f2]; exact hq, fun k k1 k2 T hT => ?_, h'⟩, by rw [e1]; omega⟩
        by_cases e : k = (j : Int) + 1
        · subst e; exact f3 T hT
        · rw [abort_all e] at hT
          exact hend k k1 (by omega) T hT
      · have htimes := all_ended calm91 hq fun k k1 k2 => hend k k1 (by omega)
        obtain ⟨B, I, hB⟩ := id ok91
        have il := I.last
        have im := I.most
        have hroom := begin_room (M := M2) il (by rw [htimes, im]; decide)
        have hwf := wf_begin calm91.wf
        obtain ⟨r1, r2, r3, r4, r5, r6, _⟩ := begin_rest M2
        have lb := calm91.lb
        refine ok_begin h91 ok91 (by omega) fun w96 ok96 h96 => ?_
        have hb2 : M2.begin.2 = (M2.book.last + 1, 0) := by rw [hroom]
        have hop : M2.begin.1.opn (M2.book.last + 1) = some (freshT M2) := by
          rw [hroom]; unfold Mgr.opn; simp only [lkp_put, if_pos]; rfl
        have htl : M2.begin.1.book.times.length = 1 := by rw [hroom]; simp only; rw [htimes]; rfl
        rw [hb2]
        dsimp only
        refine bsplit_iff.2 ⟨fun e => (by simp at e), fun _ => ?_⟩
        refine ok_openN h96 ok96 (by omega) fun w98 k98 => ?_
        rw [htl]
        refine bsplit_iff.2 ⟨fun e => (by simp at e), fun _ => ?_⟩
        have h98 := k98.sat h96
        rw [hq] at hwf r6
        have hfat : (freshT M2).at_ = M2.begin.1.last := r2.symm
        have hfb : (freshT M2).buf = ⟨20, 16, []⟩ := by unfold freshT; rw [calm91.bl]
        have hro : M2.begin.1.read = false := r3.trans calm91.ro
        have hgv : M2.begin.1.given ≤ 1000 := by rw [r4]; exact calm91.gv
        have hlast : 0 ≤ M2.begin.1.last := by rw [r2]; exact il.1
        generalize M2.begin.1 = M3 at ok96 h98 hop hwf r6 hfat hro hgv hlast
        generalize freshT M2 = T3 at hop hfat hfb
        generalize M2.book.last + 1 = h3 at hop ⊢
        have k3w := k3.trans (Keep.whole h98.right)
        refine ⟨(e.first, e.len), ⟨keep_cell k3w c0, keep_cell k3w c1⟩, ?_⟩
        refine ok_read (e := e) h98 ok96 (by omega) fun s100 w101 ok101 h101 => ?_
        obtain ⟨q1, q2, q3⟩ := read_keep M3 h3 e
        obtain ⟨V, hop4⟩ := q3 T3 hop
        have hwf4 := wf_read hwf h3 e
        have st4 := stay_read M3 h3 e
        rw [← q2] at hfat hlast
        rw [← st4.rd] at hro
        rw [← st4.gv] at hgv
        rw [r6] at q1
        have h101' := h101.right
        clear h101
        generalize (M3.readE h3 e).1 = M4 at ok101 h101' hop4 hwf4 q1 hfat hlast hro hgv
        refine data_c h101' fun s102 w103 hs102 h103 => ?_
        rw [withW_iff]
        have h104 := h103.alloc (.cells #[.int .i64 3, .slice s102.a s102.n s102.c] 33)
        have hdl : (blockB 40 9).length = 40 := blockB_length _ _
        generalize blockB 40 9 = dx at h104 hdl
        generalize w103.heap.size = bx at h104 ⊢
        refine ok_write (l := [⟨3, dx⟩]) (h104.eq (by ac_rfl : _ = mgrA (some ⟨p, 0, none⟩) M4 * (pt bx (.cells #[.int .i64 3, .slice s102.a s102.n s102.c] 33) * (ownS 1 s102 (bytesV dx) * whole w3)))) ok101 (fun w' hw' => put1_on hw' rfl) (by simp) fun w106 ok106 h106 => ?_
        obtain ⟨u1, u2, u3, u4⟩ := write_new (x := ⟨3, dx⟩) hop4 hfb (by simp only; omega) hdl
        have hwf5 := wf_write hwf4 h3 [⟨3, dx⟩]
        have st5 := stay_write M4 h3 [⟨3, dx⟩]
        rw [u1]
        refine bsplit_iff.2 ⟨fun _ => ?_, fun e => (by simp at e)⟩
        have hcom := alone_commit hwf5 (by rw [u2]; exact q1) u4 (by simp only; rw [u3]; exact hfat) (by simp) (by rw [st5.rd]; exact hro) (by rw [st5.gv]; exact hgv) (by rw [u3]; exact hlast)
        refine ok_commit h106 ok106 (by omega) fun w108 ok108 h108 => ?_
        rw [hcom]
        refine bsplit_iff.2 ⟨fun _ => ?_, fun e => (by simp at e)⟩
        exact awake_c fun w' k' => hk _ ((k13.trans (Keep.whole h108.right.right.right)).trans k')
theorem readers_row (w : World) (s : SV) (l : List Stp) (hl : StepsArg w s l) (e : Ext) (_he : (-9223372036854775808 ≤ e.first ∧ e.first ≤ 9223372036854775807) ∧ (-9223372036854775808 ≤ e.len ∧ e.len ≤ 9223372036854775807)) : Calls Tryz.prog 13 #[.slice s.a s.n s.c, .agg #[.int .i64 e.first, .int .i64 e.len]] w fun r w' => r = .returned (.bool true) ∧ RowKit.Below w.heap.size w w' :=
  row_of (readers_c (e := e) hl fun _ k => ⟨rfl, k⟩)
end Go.Proofs.YtbolgpjcmchfoaaGreat
