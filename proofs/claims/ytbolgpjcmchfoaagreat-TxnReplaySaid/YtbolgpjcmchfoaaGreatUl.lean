/- The reference's manager: what ends, what is written and read. -/
import Derived.Test.YtbolgpjcmchfoaaGreatUk
namespace Go.Proofs.YtbolgpjcmchfoaaGreat
open Go Go.Vc Go.Sl Go.Mo
def endR (M : Mgr) (i st tm cd : Int) : Mgr :=
  match lkp M.all i with
  | none => M
  | some T => { M with all := put M.all i { T with state := st, time := tm, code := cd }, book := (M.book.close i).1 }
theorem close_parts (B : Book) (i : Int) : (B.close i).1.most = B.most ∧ (B.close i).1.last = B.last := by unfold Book.close; split <;> exact ⟨rfl, rfl⟩
theorem waiting_congr {M N : Mgr} (hq : N.queue = M.queue) (h : ∀ k ∈ M.queue, lkp N.all k = lkp M.all k) : N.waiting = M.waiting := by
  unfold Mgr.waiting
  rw [hq]
  have : ∀ l : List Int, (∀ k ∈ l, lkp N.all k = lkp M.all k) → (l.filterMap fun h => (lkp N.all h).map fun T => (⟨T.time, T.buf.puts⟩ : Tx)) = l.filterMap fun h => (lkp M.all h).map fun T => (⟨T.time, T.buf.puts⟩ : Tx) := by
    intro l
    induction l with
    | nil => intro _; rfl
    | cons k r ih => intro h; rw [List.filterMap_cons, List.filterMap_cons, h k (by simp), ih fun j hj => h j (by simp [hj])]
  exact this _ h
theorem waiting_put {M : Mgr} {i : Int} {T : Trn} (hi : i ∉ M.queue) : ({ M with all := put M.all i T } : Mgr).waiting = M.waiting := waiting_congr rfl fun k hk => by
  show lkp (put M.all i T) k = _
  rw [lkp_put, if_neg fun e => by subst e; exact hi hk]
section
variable {p bm : Nat} {ts sh st sq qh sv : SV} {xs : List (TR × Trn)} {W : List Tx} {M : Mgr} {F : Heap → Prop} {R : HP} {w : World}
theorem rend_c {j : Nat} {st' tm cd : Int} {K : Unit → World → Prop} (hF : Mono F) (hf : RefF F sh st sq qh sv xs W M) (h : St [pool F, mgO p bm ts sh st sq qh M, mpO bm sv M, tsO ts xs, Sl.all xs (trR bm), R] w) (hj : j < xs.length) (hb : M.book.times.length ≤ 2 ^ 30) (hn : xs.length ≤ 2 ^ 40)
    (hk : ∀ F' sh2 st2 w', Mono F' → (∀ h, F' h → F h) → RefF F' sh2 st2 sq qh sv (xs.set j (xs[j].1, { xs[j].2 with state := st', time := tm, code := cd })) W (endR M ((j : Int) + 1) st' tm cd) →
      St [pool F', mgO p bm ts sh2 st2 sq qh (endR M ((j : Int) + 1) st' tm cd), mpO bm sv (endR M ((j : Int) + 1) st' tm cd), tsO ts (xs.set j (xs[j].1, { xs[j].2 with state := st', time := tm, code := cd })), Sl.all (xs.set j (xs[j].1, { xs[j].2 with state := st', time := tm, code := cd })) (trR bm), R] w' → K () w') :
    c_scarpref23_Manager_end (some ⟨p, 0, none⟩) ((j : Int) + 1) st' tm cd w K := by
  refine scarpref23_Manager_end_go ?_
  unfold f_scarpref23_Manager_end
  have hts := st_len h 3 rfl
  rw [List.length_map] at hts
  have hl := lkp_at hf.all hj
  have hE : endR M ((j : Int) + 1) st' tm cd = { M with all := put M.all ((j : Int) + 1) { xs[j].2 with state := st', time := tm, code := cd }, book := (M.book.close ((j : Int) + 1)).1 } := by unfold endR; rw [hl]
  have ew : IntKind.i64.wrap ((j : Int) + 1 - 1) = (j : Int) := by rw [wrap_of (by omega) (by omega)]; omega
  rw [onP_some, ew]
  refine ⟨ts, st_c1 h 1 rfl rfl, by omega, by omega, st_own h 3 rfl (by rw [List.length_map]; omega) fun b hb' hc => ⟨some ⟨xs[j].1.p, 0, none⟩, ?_, ?_⟩⟩
  · rw [add_mk]
    refine hc _ _ ?_
    simp only [Int.toNat_natCast, Nat.mul_one, Nat.zero_add]
    rw [List.getElem?_map, List.getElem?_eq_getElem hj]; rfl
  have hs := rsplit h hj
  rw [onP_some]
  refine st_s0 hs 5 rfl (by simp) fun w6 h6 => ?_
  rw [onP_some]
  refine st_s1 h6 5 rfl (by simp) fun w8 h8 => ?_
  rw [onP_some]
  refine st_s1 h8 5 rfl (by simp) fun w10 h10 => ?_
  have h11 : St [pool F, mgO p bm ts sh st sq qh M, mpO bm sv M, tsO ts (xs.set j (xs[j].1, { xs[j].2 with state := st', time := tm, code := cd })), Sl.all (xs.set j (xs[j].1, { xs[j].2 with state := st', time := tm, code := cd })) (trR bm), R] w10 :=
    rjoin (y := (xs[j].1, { xs[j].2 with state := st', time := tm, code := cd })) h10 hj rfl
  rw [onP_some, add_mk]
  refine rbook_close (b := p) (o := 1) (B := M.book) (k := (j : Int) + 1) hF h11 0 rfl rfl rfl hf.bh hf.bt hb fun F2 sh2 st2 w13 f1 f2 f3 f4 h13 => ?_
  obtain ⟨c1, c2⟩ := close_parts M.book ((j : Int) + 1)
  refine hk F2 sh2 st2 w13 f1 f2 ?_ ?_
  · rw [hE]
    have hm := hf.more f2
    refine ⟨hm.vers, f3, f4, hm.q, hm.qh, fun x hx => ?_, ?_⟩
    · rcases List.mem_or_eq_of_mem_set hx with e | e
      · exact hm.tr x e
      · subst e
        have t := hm.tr _ (List.getElem_mem hj)
        exact ⟨t.sl, t.ys, t.yk, t.bl, t.at_, t.nf, t.wb⟩
    · exact put_at hf.all hj (xs[j].1, { xs[j].2 with state := st', time := tm, code := cd })
  · rw [hE]
    unfold mgO rcells
    rw [c1, c2]
    exact h13
theorem xs_last (wf : Wf M.queue M) (hall : M.all = idxF 1 (xs.map Prod.snd)) : (xs.length : Int) = M.book.last := by
  have h0 := wf.bl
  have a : (xs.length : Int) ≤ M.book.last := by
    rcases Nat.eq_zero_or_pos xs.length with e | e
    · omega
    · have := lkp_at hall (j := xs.length - 1) (by omega)
      have h1 := (wf.hs (((xs.length - 1 : Nat) : Int) + 1)).1 (by rw [this]; rfl)
      omega
  have b : M.book.last ≤ (xs.length : Int) := by
    rcases Int.le_iff_lt_or_eq.1 h0 with e | e
    · obtain ⟨T, hT⟩ := Option.isSome_iff_exists.1 ((wf.hs M.book.last).2 ⟨by omega, by omega⟩)
      obtain ⟨j, hj, e2, _⟩ := at_of hall hT
      omega
    · omega
  omega
theorem xs_le {N : Nat} (wf : Wf M.queue M) (ok : MgrOk N M) (hN : N ≤ 2 ^ 11) (hall : M.all = idxF 1 (xs.map Prod.snd)) : xs.length ≤ 2 ^ 11 := by
  obtain ⟨B, I, _⟩ := ok
  have := I.blast
  have := xs_last wf hall
  omega
theorem ref_abort {N : Nat} {i : Int} {K : Int → World → Prop} (h : Ref p M F R w) (wf : Wf M.queue M) (ok : MgrOk N M) (hN : N ≤ 2 ^ 11) (hk : ∀ F' w', (∀ h, F' h → F h) → Ref p (M.abort i).1 F' R w' → K (M.abort i).2 w') : c_scarpref23_Manager_Abort (some ⟨p, 0, none⟩) i w K := by
  obtain ⟨hF, bm, ts, sh, st, sq, qh, sv, xs, hf, h1⟩ := h
  have hbl : M.book.times.length ≤ 16 := by obtain ⟨B, I, _⟩ := ok; exact I.blen
  have hn : xs.length ≤ 2 ^ 40 := by have := xs_le wf ok hN hf.all; omega
  refine scarpref23_Manager_Abort_go ?_
  unfold f_scarpref23_Manager_Abort
  refine ropen_c hf h1 hn (fun hno => bsplit_iff.2 ⟨fun _ => ?_, fun e => (by cases e)⟩) fun j hj hi ho hst => bsplit_iff.2 ⟨fun e => (by cases e), fun _ => ?_⟩
  · have e : M.abort i = (M, 5) := by unfold Mgr.abort; rw [hno]
    rw [e] at hk
    exact hk F w (fun _ h => h) ⟨hF, bm, ts, sh, st, sq, qh, sv, xs, hf, h1⟩
  · subst hi
    have hl := lkp_at hf.all hj
    have e : M.abort ((j : Int) + 1) = (endR M ((j : Int) + 1) 4 0 0, 0) := by
      unfold Mgr.abort Mgr.end_ endR; rw [ho, hl]; rfl
    rw [e] at hk
    have hnq : ((j : Int) + 1) ∉ M.queue := wf.notQ hl (by omega)
    have hw : (endR M ((j : Int) + 1) 4 0 0).waiting = M.waiting := by
      unfold endR; rw [hl]
      exact waiting_congr rfl fun k hk' => by
        show lkp (put _ _ _) k = _
        rw [lkp_put, if_neg fun e => by subst e; exact hnq hk']
    exact rend_c hF hf h1 hj (by omega) hn fun F' sh2 st2 w' f1 f2 f3 f4 => hk F' w' f2 ⟨f1, bm, ts, sh2, st2, sq, qh, sv, _, by rw [hw]; exact f3, f4⟩
theorem ref_write {N : Nat} {i : Int} {s : SV} {l : List Put} {K : Int → World → Prop} (h : Ref p M F R w) (wf : Wf M.queue M) (ok : MgrOk N M) (hN : N ≤ 2 ^ 11) (hl : KPuts F s l) (hln : l.length ≤ 2 ^ 20)
    (hk : ∀ F' w', (∀ h, F' h → F h) → Ref p (M.write i l).1 F' R w' → K (M.write i l).2 w') : c_scarpref23_Manager_Write (some ⟨p, 0, none⟩) i s w K := by
  obtain ⟨hF, bm, ts, sh, st, sq, qh, sv, xs, hf, h1⟩ := h
  have hn := xs_le wf ok hN hf.all
  refine scarpref23_Manager_Write_go ?_
  unfold f_scarpref23_Manager_Write
  refine ropen_c hf h1 (by omega) (fun hno => bsplit_iff.2 ⟨fun _ => ?_, fun e => (by cases e)⟩) fun j hj hi ho hst => bsplit_iff.2 ⟨fun e => (by cases e), fun _ => ?_⟩
  · have e : M.write i l = (M, 5) := by unfold Mgr.write; rw [hno]
    rw [e] at hk
    exact hk F w (fun _ h => h) ⟨hF, bm, ts, sh, st, sq, qh, sv, xs, hf, h1⟩
  · subst hi
    have hlk := lkp_at hf.all hj
    have e : M.write ((j : Int) + 1) l = ({ M with all := put M.all ((j : Int) + 1) { xs[j].2 with buf := (xs[j].2.buf.write l).1 } }, (xs[j].2.buf.write l).2) := by unfold Mgr.write; rw [ho]
    rw [e] at hk
    have hnq : ((j : Int) + 1) ∉ M.queue := wf.notQ hlk (by omega)
    have t := hf.tr _ (List.getElem_mem hj)
    obtain ⟨B, I, _⟩ := ok
    have ti := I.trn hlk
    have hs := rsplit h1 hj
    rw [onP_some]
    refine ⟨_, st_c1 hs 5 rfl rfl, ?_⟩
    refine rbuf_write (B := xs[j].2.buf) hF hs 2 rfl t.bl (wf.bn _ _ hlk) hl hln (by have := ti.buf.len; omega) fun F2 bl2 w2 f1 f2 f3 h2 => ?_
    have hbl : (xs[j].2.buf.write l).1.blocks = xs[j].2.buf.blocks ∧ (xs[j].2.buf.write l).1.most = xs[j].2.buf.most := by
      unfold Buf.write; repeat' split
      all_goals exact ⟨rfl, rfl⟩
    have hB : tB { xs[j].1 with bl := bl2 } { xs[j].2 with buf := (xs[j].2.buf.write l).1 } = objA (some ⟨xs[j].1.b, 0, none⟩) [.int .i64 xs[j].2.buf.blocks, .int .i64 xs[j].2.buf.most, slv bl2] := by
      unfold tB; rw [hbl.1, hbl.2]
    have h3 := rjoin (y := ({ xs[j].1 with bl := bl2 }, { xs[j].2 with buf := (xs[j].2.buf.write l).1 })) (j := j) (A := mgO p bm ts sh st sq qh M) (B := mpO bm sv M) (xs := xs) (F := F2) (R := R) (w := w2) (by rw [hB]; exact h2) hj rfl
    refine hk F2 w2 f2 ⟨f1, bm, ts, sh, st, sq, qh, sv, _, ?_, h3⟩
    have hm := hf.more f2
    rw [waiting_put hnq]
    refine ⟨hm.vers, hm.bh, hm.bt, hm.q, hm.qh, fun x hx => ?_, ?_⟩
    · rcases List.mem_or_eq_of_mem_set hx with e | e
      · exact hm.tr x e
      · subst e
        have t := hm.tr _ (List.getElem_mem hj)
        exact ⟨t.sl, t.ys, t.yk, f3, t.at_, t.nf, t.wb⟩
    · exact put_at hf.all hj ({ xs[j].1 with bl := bl2 }, { xs[j].2 with buf := (xs[j].2.buf.write l).1 })
theorem flatV_le {B : Nat} {X : XMap} (vo : VOk X) (ok : XOk B X) (hB : B ≤ 2 ^ 11) : (flatV X).length ≤ 2 ^ 36 := by
  have h1 := flatV_length vo
  unfold XMap.versions at h1
  have h2 : ∀ l : List (Int × List Put), (∀ q ∈ l, q.2.length ≤ B) → (l.map fun q => q.2.length).sum ≤ l.length * B := by
    intro l
    induction l with
    | nil => intro _; simp
    | cons q r ih =>
      intro h
      have a := h q (by simp)
      have b := ih fun x hx => h x (by simp [hx])
      simp only [List.map_cons, List.sum_cons, List.length_cons, Nat.succ_mul]; omega
  have h3 := h2 X.vers fun q hq => (ok.2.2 q hq).2.2.1
  have h4 := ok.2.1
  have h5 : X.vers.length * B ≤ (2 ^ 11 * 2 ^ 13) * 2 ^ 11 := Nat.mul_le_mul (Nat.le_trans h4 (Nat.mul_le_mul_right _ hB)) hB
  omega
theorem get40 {B : Nat} {X : XMap} (ok : XOk B X) (k t : Int) : (X.get k t).length = 40 := valAt_length t fun x hx => by
  obtain ⟨q, hq, _, hv⟩ := versOf_mem hx
  exact (ok.2.2 q hq).2.2.2 x hv
theorem add_wb {S : XSet} {e : Ext} {n : Int} (nf : NF S.l) (h : ∀ x ∈ S.l, x.first + x.len ≤ n) (he : e.first + e.len ≤ n) : ∀ x ∈ (S.add [e]).1.l, x.first + x.len ≤ n := by
  have hn := add_nf (S := S) (l := [e]) nf
  unfold XSet.add at hn ⊢
  repeat' split
  all_goals first | exact h | skip
  rename_i a b c
  rw [if_neg a, if_neg b, if_neg c] at hn
  intro x hx
  have h1 := hn.2 x hx
  have hc : cov (joinM (S.l ++ [e])) (x.first + x.len - 1) := ⟨x, hx, by omega, by omega⟩
  rw [joinM_cov, cov_append, cov_one] at hc
  rcases hc with ⟨y, hy, _, hy2⟩ | hc
  · have := h y hy; omega
  · omega
theorem ref_read {N : Nat} {i : Int} {e : Ext} {K : SV × Int → World → Prop} (h : Ref p M F R w) (wf : Wf M.queue M) (ok : MgrOk N M) (hN : N ≤ 2 ^ 11)
    (hk : ∀ F' s w', (∀ h, F' h → F h) → Ref p (M.readE i e).1 F' (byteRow s (M.readE i e).2.1 * R) w' → K (s, (M.readE i e).2.2) w') : c_scarpref23_Manager_Read (some ⟨p, 0, none⟩) i e.first e.len w K := by
  obtain ⟨hF, bm, ts, sh, st, sq, qh, sv, xs, hf, h1⟩ := h
  have hn := xs_le wf ok hN hf.all
  refine scarpref23_Manager_Read_go ?_
  unfold f_scarpref23_Manager_Read
  refine st_newF h1 fun w1 h2 => ?_
  have h3 : St [pool F, mgO p bm ts sh st sq qh M, mpO bm sv M, tsO ts xs, Sl.all xs (trR bm), objA (some ⟨w.heap.size, 0, none⟩) [.int .i64 e.first, .int .i64 e.len] * R] w1 := h2.to (by simp only [big_cons]; ac_rfl)
  clear h2
  refine ropen_c hf h3 (by omega) (fun hno => bsplit_iff.2 ⟨fun _ => ?_, fun e => (by cases e)⟩) fun j hj hi ho hst => bsplit_iff.2 ⟨fun e => (by cases e), fun _ => ?_⟩
  · have e5 : M.readE i e = (M, ([], 5)) := by unfold Mgr.readE; rw [hno]
    rw [e5] at hk
    refine hk F ⟨none, 0, 0⟩ w1 (fun _ h => h) ⟨hF, bm, ts, sh, st, sq, qh, sv, xs, hf, ?_⟩
    have h4 := st_nilF 1 h3
    have h5 : Sat (objA (some ⟨w.heap.size, 0, none⟩) [.int .i64 e.first, .int .i64 e.len] * bigS [pool F, mgO p bm ts sh st sq qh M, mpO bm sv M, tsO ts xs, Sl.all xs (trR bm), byteRow ⟨none, 0, 0⟩ [] * R]) w1 := h4.to (by simp only [big_cons]; unfold byteRow bytesV; simp only [List.map_nil]; ac_rfl)
    exact h5.right
  · subst hi
    have hlk := lkp_at hf.all hj
    have e5 : M.readE ((j : Int) + 1) e = ({ M with all := put M.all ((j : Int) + 1) { xs[j].2 with view := (xs[j].2.view.read M.m xs[j].2.buf e).1 } }, (xs[j].2.view.read M.m xs[j].2.buf e).2) := by unfold Mgr.readE; rw [ho]
    rw [e5] at hk
    have hnq : ((j : Int) + 1) ∉ M.queue := wf.notQ hlk (by omega)
    have t := hf.tr _ (List.getElem_mem hj)
    obtain ⟨B, I, hB⟩ := ok
    have ti := I.trn hlk
    refine st_drew h3 fun w5 h5 => ?_
    have hs := rsplit h5 hj
    have cells : ∀ {w' : World} {X : HP}, Sat (objA (some ⟨w.heap.size, 0, none⟩) [.int .i64 e.first, .int .i64 e.len] * R * X) w' → w'.cell? ⟨w.heap.size, 0, none⟩ = some (.int .i64 e.first) ∧ w'.cell? ((⟨w.heap.size, 0, none⟩ : Addr).add 1) = some (.int .i64 e.len) := fun h => by
      have h9 := h.eq (mul_assoc' _ _ _)
      exact ⟨(objA_cells h9).1 0, by rw [add_mk]; exact (objA_cells h9).1 1⟩
    refine ⟨fun w' => w'.cell? ((⟨xs[j].1.p, 0, none⟩ : Addr).add 3) = some (.pointer (some ⟨xs[j].1.v, 0, none⟩)) ∧ w'.cell? ⟨w.heap.size, 0, none⟩ = some (.int .i64 e.first) ∧ w'.cell? ((⟨w.heap.size, 0, none⟩ : Addr).add 1) = some (.int .i64 e.len), ⟨st_c1 hs 5 rfl rfl, cells (hs.take 9 rfl)⟩, ?_⟩
    rw [onP_some]
    refine ⟨_, fun _ h => h.1, (e.first, e.len), fun _ h => h.2, ?_⟩
    have hyn : xs[j].1.ys.length ≤ 2 ^ 30 := by
      have h1 := congrArg List.length t.ys
      rw [List.length_map] at h1
      have := I.rds _ (lkp_mem hlk)
      simp only at this
      rw [h1]
      have : 16 * N ≤ 16 * 2 ^ 11 := Nat.mul_le_mul_left _ hN
      omega
    refine rview_read (V := xs[j].2.view) (M := M.m) (B := xs[j].2.buf) (e := e) (ys := xs[j].1.ys) hF hs t.sl ti.most ti.slen (fun x hx => ti.set.1 x hx) t.nf hf.vers wf.vo I.blocks (flatV_le wf.vo I.vers (by omega)) (get40 I.vers) t.bl (by have := ti.buf.len; omega) (fun q hq => (ti.buf.data q hq).2) t.ys t.yk hyn
      fun F2 sl2 rs2 ys2 out w2 f1 f2 f3 f4 f5 h6 => ?_
    have hV : ∀ V : View, (xs[j].2.view.read M.m xs[j].2.buf e).1.at_ = xs[j].2.view.at_ := fun _ => by
      unfold View.read; repeat' split
      all_goals rfl
    have hS : (xs[j].2.view.read M.m xs[j].2.buf e).1.set = xs[j].2.view.set ∨ (xs[j].2.view.read M.m xs[j].2.buf e).1.set = (xs[j].2.view.set.add [e]).1 ∧ e.first + e.len ≤ 1048576 := by
      unfold View.read; repeat' split
      all_goals first | exact .inl rfl | skip
      rename_i a b c
      refine .inr ⟨rfl, ?_⟩
      have := I.blocks
      unfold within at b
      simp only [Bool.and_eq_false_iff, decide_eq_false_iff_not] at b
      omega
    generalize hW : (xs[j].2.view.read M.m xs[j].2.buf e) = V2 at *
    have h7 : St [byteRow out V2.2.1, pool F2, tV bm { xs[j].1 with sl := sl2, rs := rs2, ys := ys2 } { xs[j].2 with view := V2.1 }, mpO bm sv M, tB xs[j].1 xs[j].2, tR { xs[j].1 with sl := sl2, rs := rs2, ys := ys2 }, tP xs[j].1 xs[j].2, mgO p bm ts sh st sq qh M, tsO ts xs, Sl.all (xs.eraseIdx j) (trR bm), objA (some ⟨w.heap.size, 0, none⟩) [.int .i64 e.first, .int .i64 e.len] * R] w2 := by
      have : tV bm { xs[j].1 with sl := sl2, rs := rs2, ys := ys2 } { xs[j].2 with view := V2.1 } = objA (some ⟨xs[j].1.v, 0, none⟩) [.pointer (some ⟨bm, 0, none⟩), .pointer (some ⟨xs[j].1.b, 0, none⟩), .int .i64 xs[j].2.view.at_, .int .i64 64, slv sl2, slv rs2] := by
        unfold tV; simp only [hV V2.1]
      rw [this]; exact h6
    have h8 : Sat (objA (some ⟨w.heap.size, 0, none⟩) [.int .i64 e.first, .int .i64 e.len] * bigS [pool F2, tV bm { xs[j].1 with sl := sl2, rs := rs2, ys := ys2 } { xs[j].2 with view := V2.1 }, mpO bm sv M, tB xs[j].1 xs[j].2, tR { xs[j].1 with sl := sl2, rs := rs2, ys := ys2 }, tP xs[j].1 xs[j].2, mgO p bm ts sh st sq qh M, tsO ts xs, Sl.all (xs.eraseIdx j) (trR bm), byteRow out V2.2.1 * R]) w2 := h7.to (by simp only [big_cons]; ac_rfl)
    have h10 := rjoin (y := ({ xs[j].1 with sl := sl2, rs := rs2, ys := ys2 }, { xs[j].2 with view := V2.1 })) (j := j) (A := mgO p bm ts sh st sq qh M) (B := mpO bm sv M) (xs := xs) (F := F2) (R := byteRow out V2.2.1 * R) (w := w2) h8.right hj rfl
    refine ⟨⟨st_c1 h7 6 rfl rfl, cells (h7.take 10 rfl)⟩, ?_⟩
    refine hk F2 out w2 f2 ⟨f1, bm, ts, sh, st, sq, qh, sv, _, ?_, h10⟩
    have hm := hf.more f2
    rw [waiting_put hnq]
    refine ⟨hm.vers, hm.bh, hm.bt, hm.q, hm.qh, fun x hx => ?_, ?_⟩
    · rcases List.mem_or_eq_of_mem_set hx with e | e
      · exact hm.tr x e
      · subst e
        rcases hS with q | ⟨q, q2⟩
        · refine ⟨f3, f4, f5, t.bl.more f2, by rw [← t.at_]; exact hV V2.1, ?_, ?_⟩
          · show NF V2.1.set.l
            rw [q]; exact t.nf
          · show ∀ x ∈ V2.1.set.l, _
            rw [q]; exact t.wb
        · refine ⟨f3, f4, f5, t.bl.more f2, by rw [← t.at_]; exact hV V2.1, ?_, ?_⟩
          · show NF V2.1.set.l
            rw [q]; exact add_nf t.nf
          · show ∀ x ∈ V2.1.set.l, _
            rw [q]; exact add_wb t.nf t.wb q2
    · exact put_at hf.all hj ({ xs[j].1 with sl := sl2, rs := rs2, ys := ys2 }, { xs[j].2 with view := V2.1 })
end
end Go.Proofs.YtbolgpjcmchfoaaGreat
