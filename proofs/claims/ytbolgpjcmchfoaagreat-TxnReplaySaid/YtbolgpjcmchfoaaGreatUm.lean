/- The reference's manager: begins, prunes, loads, batches. -/
import Derived.Test.YtbolgpjcmchfoaaGreatUl
namespace Go.Proofs.YtbolgpjcmchfoaaGreat
open Go Go.Vc Go.Sl Go.Mo
theorem open_cases (B : Book) (t : Int) : ((B.open t).2.2 ≠ 0 ∧ (B.open t).1 = B) ∨ (B.open t = ({ B with last := B.last + 1, times := put B.times (B.last + 1) t }, (B.last + 1, 0))) := by
  unfold Book.open
  split
  · exact .inl ⟨by simp, rfl⟩
  · split
    · exact .inl ⟨by simp, rfl⟩
    · exact .inr rfl
section
variable {p : Nat} {M : Mgr} {F : Heap → Prop} {R : HP} {w : World}
theorem ref_begin {N : Nat} {K : Int × Int → World → Prop} (h : Ref p M F R w) (wf : Wf M.queue M) (ok : MgrOk N M) (hN : N ≤ 2 ^ 11) (hk : ∀ F' w', (∀ h, F' h → F h) → Ref p M.begin.1 F' R w' → K M.begin.2 w') : c_scarpref23_Manager_Begin (some ⟨p, 0, none⟩) w K := by
  obtain ⟨hF, bm, ts, sh, st, sq, qh, sv, xs, hf, h1⟩ := h
  have hn := xs_le wf ok hN hf.all
  have hxl := xs_last wf hf.all
  obtain ⟨B, I, _⟩ := ok
  have hbl := I.blen
  have hlast := I.blast
  have hmb := I.blocks
  refine scarpref23_Manager_Begin_go ?_
  unfold f_scarpref23_Manager_Begin
  refine st_drew h1 fun w2 h2 => ⟨fun w' => w'.cell? ((⟨p, 0, none⟩ : Addr).add 11) = some (.int .i64 M.last), st_c1 h2 1 rfl rfl, ?_⟩
  rw [onP_some, onP_some]
  refine ⟨_, fun _ h => h, ?_⟩
  rw [add_mk]
  have hnew : lkp M.book.times (M.book.last + 1) = none := by
    cases e : lkp M.book.times (M.book.last + 1) with
    | none => rfl
    | some v => have := I.keys _ (lkp_mem e); simp only at this; omega
  refine rbook_open (b := p) (o := 1) (B := M.book) (at_ := M.last) hF h2 0 rfl rfl rfl rfl rfl hf.bh hf.bt (by omega) (by omega) hnew fun F2 sh2 st2 w8 f1 f2 f3 f4 h8 => ?_
  have hm := hf.more f2
  rcases open_cases M.book M.last with ⟨e0, e1⟩ | e
  · have eb : M.begin = (M, (0, (M.book.open M.last).2.2)) := by unfold Mgr.begin; rw [if_neg e0]
    rw [eb] at hk
    rw [e1] at h8 f3 f4
    refine ⟨st_c1 h8 1 rfl rfl, bsplit_iff.2 ⟨fun _ => ?_, fun q => absurd (by simpa using q) e0⟩⟩
    exact hk F2 w8 f2 ⟨f1, bm, ts, sh2, st2, sq, qh, sv, xs, ⟨hm.vers, f3, f4, hm.q, hm.qh, hm.tr, hm.all⟩, h8⟩
  · have eb : M.begin = ({ M with book := { M.book with last := M.book.last + 1, times := put M.book.times (M.book.last + 1) M.last }, all := put M.all (M.book.last + 1) (freshT M) }, (M.book.last + 1, 0)) := by unfold Mgr.begin; rw [e]; rfl
    rw [eb] at hk
    rw [e] at h8 f3 f4 ⊢
    refine ⟨st_c1 h8 1 rfl rfl, bsplit_iff.2 ⟨fun q => by simp at q, fun _ => ?_⟩⟩
    rw [onP_some]
    refine ⟨_, st_c1 h8 1 rfl rfl, ?_⟩
    refine scarpref11_NewBuf_go ?_
    unfold f_scarpref11_NewBuf
    refine bsplit_decide.2 ⟨fun q => by omega, fun _ => bsplit_decide.2 ⟨fun q => by omega, fun _ => bsplit_decide.2 ⟨fun q => by omega, fun _ => ?_⟩⟩⟩
    refine st_newF h8 fun w12 h12 => st_drew h12 fun w14 h14 => ?_
    refine ⟨fun w' => w'.cell? ((⟨p, 0, none⟩ : Addr).add 5) = some (.slice ts.a ts.n ts.c) ∧ w'.cell? ⟨p, 0, none⟩ = some (.pointer (some ⟨bm, 0, none⟩)) ∧ w'.cell? ((⟨p, 0, none⟩ : Addr).add 11) = some (.int .i64 M.last), ⟨st_c1 h14 2 rfl rfl, st_c0 h14 2 rfl rfl, st_c1 h14 2 rfl rfl⟩, ?_⟩
    rw [onP_some]
    refine ⟨ts, fun _ h => h.1, ?_⟩
    rw [onP_some]
    refine ⟨_, fun _ h => h.2.1, ?_⟩
    rw [onP_some]
    refine ⟨_, fun _ h => h.2.2, ?_⟩
    refine scarpref11_NewView_go ?_
    unfold f_scarpref11_NewView
    refine st_newF h14 fun w25 h25 => ⟨⟨st_c1 h25 3 rfl rfl, st_c0 h25 3 rfl rfl, st_c1 h25 3 rfl rfl⟩, ?_⟩
    refine st_newF h25 fun w26 h26 => ⟨⟨st_c1 h26 4 rfl rfl, st_c0 h26 4 rfl rfl, st_c1 h26 4 rfl rfl⟩, ?_⟩
    refine st_newF h26 fun w27 h27 => ⟨⟨st_c1 h27 5 rfl rfl, st_c0 h27 5 rfl rfl, st_c1 h27 5 rfl rfl⟩, ?_⟩
    have htl := st_len h27 7 rfl
    rw [List.length_map] at htl
    refine st_push h27 7 rfl 0 rfl rfl rfl (by omega) (by omega) rfl fun s28 w29 _ h29 => ⟨⟨st_c1 h29 5 rfl rfl, st_c0 h29 5 rfl rfl, st_c1 h29 5 rfl rfl⟩, ?_⟩
    rw [onP_some]
    refine st_s1 h29 5 rfl (by simp [rcells]) fun w31 h31 => ?_
    have htr : TrF F2 ⟨w25.heap.size, w14.heap.size, w8.heap.size, ⟨none, 0, 0⟩, ⟨none, 0, 0⟩, ⟨none, 0, 0⟩, []⟩ (freshT M) := by
      refine ⟨KRow.nil, rfl, fun y hy => by simp at hy, ?_, rfl, nf_nil, fun x hx => by simp [freshT] at hx⟩
      have : (freshT M).buf.puts = [] := by simp [freshT, Buf.puts, sortI]
      rw [this]; exact KPuts.nil
    have hnq : (M.book.last + 1) ∉ M.queue := fun hq => by
      obtain ⟨T, hT, _⟩ := (wf.qs _).1 hq
      have := (wf.hs _).1 (by rw [hT]; rfl)
      omega
    refine hk F2 w31 f2 ⟨f1, bm, s28, sh2, st2, sq, qh, sv, xs ++ [(⟨w25.heap.size, w14.heap.size, w8.heap.size, ⟨none, 0, 0⟩, ⟨none, 0, 0⟩, ⟨none, 0, 0⟩, []⟩, freshT M)], ?_, ?_⟩
    · have hw2 : ({ M with book := { M.book with last := M.book.last + 1, times := put M.book.times (M.book.last + 1) M.last }, all := put M.all (M.book.last + 1) (freshT M) } : Mgr).waiting = M.waiting := waiting_congr rfl fun k hk' => by
        show lkp (put M.all (M.book.last + 1) (freshT M)) k = _
        rw [lkp_put, if_neg fun e => by subst e; exact hnq hk']
      refine ⟨hm.vers, f3, f4, (hw2.symm ▸ hm.q : KTxs F2 sq (Mgr.waiting _)), hm.qh, fun x hx => ?_, ?_⟩
      · rcases List.mem_append.1 hx with e | e
        · exact hm.tr x e
        · obtain rfl := List.mem_singleton.1 e
          exact htr
      · show put M.all (M.book.last + 1) (freshT M) = _
        rw [hf.all, List.map_append, ← hxl, Int.add_comm, show ((xs.length : Nat) : Int) = (((xs.map Prod.snd).length : Nat) : Int) from by rw [List.length_map]]
        exact put_idxF_new _ 1
    · have h32 := st_nilF 3 (h31.cut 0 (by simp))
      have e1 : tsO s28 (xs ++ [(⟨w25.heap.size, w14.heap.size, w8.heap.size, ⟨none, 0, 0⟩, ⟨none, 0, 0⟩, ⟨none, 0, 0⟩, []⟩, freshT M)]) = ownS 1 s28 (xs.map ptrOf ++ [.pointer (some ⟨w25.heap.size, 0, none⟩)]) := by
        unfold tsO; rw [List.map_append]; rfl
      have h33 : St [ownS 3 ⟨none, 0, 0⟩ [], objA (some ⟨w25.heap.size, 0, none⟩) [.int .i64 1, .int .i64 0, .int .i64 0, .pointer (some ⟨w14.heap.size, 0, none⟩), .pointer (some ⟨w8.heap.size, 0, none⟩)], objA (some ⟨w14.heap.size, 0, none⟩) [.pointer (some ⟨bm, 0, none⟩), .pointer (some ⟨w8.heap.size, 0, none⟩), .int .i64 M.last, .int .i64 64, slv ⟨none, 0, 0⟩, slv ⟨none, 0, 0⟩], objA (some ⟨w8.heap.size, 0, none⟩) [.int .i64 M.m.blocks, .int .i64 16, slv ⟨none, 0, 0⟩], pool F2,
          mgO p bm s28 sh2 st2 sq qh { M with book := { M.book with last := M.book.last + 1, times := put M.book.times (M.book.last + 1) M.last }, all := put M.all (M.book.last + 1) (freshT M) }, mpO bm sv M, ownS 1 s28 (xs.map ptrOf ++ [.pointer (some ⟨w25.heap.size, 0, none⟩)]), Sl.all xs (trR bm), R] w31 := h32
      rw [e1]
      refine h33.to ?_
      rw [all_append]
      simp only [big_cons, Sl.all, mul_one']
      show _ = _
      unfold trR tV tB tR tP freshT
      simp only [List.flatMap_nil]
      ac_rfl
theorem ref_prune {N : Nat} {K : Int → World → Prop} (h : Ref p M F R w) (wf : Wf M.queue M) (ok : MgrOk N M) (hN : N ≤ 2 ^ 11) (hk : ∀ F' w', (∀ h, F' h → F h) → Ref p M.prune.1 F' R w' → K M.prune.2 w') : c_scarpref23_Manager_Prune (some ⟨p, 0, none⟩) w K := by
  obtain ⟨hF, bm, ts, sh, st, sq, qh, sv, xs, hf, h1⟩ := h
  obtain ⟨B, I, hB⟩ := ok
  have hbl := I.blen
  refine scarpref23_Manager_Prune_go ?_
  unfold f_scarpref23_Manager_Prune
  refine st_drew h1 fun w2 h2 => ⟨fun w' => w'.cell? ⟨p, 0, none⟩ = some (.pointer (some ⟨bm, 0, none⟩)) ∧ w'.cell? ((⟨p, 0, none⟩ : Addr).add 11) = some (.int .i64 M.last), ⟨st_c0 h2 1 rfl rfl, st_c1 h2 1 rfl rfl⟩, ?_⟩
  rw [onP_some]
  refine ⟨_, fun _ h => h.1, ?_⟩
  rw [onP_some, onP_some]
  refine ⟨_, fun _ h => h.2, ?_⟩
  rw [add_mk]
  refine rlow_c (b := p) (o := 1) (s := st) (l := M.book.times.map Prod.snd) (st_c0 h2 1 rfl rfl) (KRow.on hf.bt _ (st_pool hF h2 0 rfl)) (KInts.n hf.bt) (by rw [List.length_map]; omega) ⟨⟨st_c0 h2 1 rfl rfl, st_c1 h2 1 rfl rfl⟩, ?_⟩
  have hlow : lowL (M.book.times.map Prod.snd) M.last = M.book.low M.last := by unfold lowL Book.low; rw [List.foldl_map]
  rw [hlow]
  refine rmap_prune (L := flatV M.m) hF h2 1 rfl hf.vers (flatV_le wf.vo I.vers (by omega)) fun F2 sv2 w13 f1 f2 f3 h13 => ⟨⟨st_c0 h13 1 rfl rfl, st_c1 h13 1 rfl rfl⟩, ?_⟩
  have hc := prune_count wf.vo (M.book.low M.last)
  rw [show ((flatV M.m).length : Int) - (pruneR (M.book.low M.last) (flatV M.m)).length = M.prune.2 from by unfold Mgr.prune; simp only; omega]
  rw [← flatV_prune wf.vo] at f3
  have hm := hf.more f2
  exact hk F2 w13 f2 ⟨f1, bm, ts, sh, st, sq, qh, sv2, xs, ⟨f3, hm.bh, hm.bt, hm.q, hm.qh, hm.tr, hm.all⟩, h13⟩
theorem ktxs_take {s : SV} {W : List Tx} {n : Nat} (h : KTxs F s W) (hn : n ≤ W.length) : KTxs F ⟨sub? s.a 0 s.c 2, n, s.c⟩ (W.take n) := by
  obtain ⟨xs, rfl, a, b⟩ := h
  have hsn : s.n = xs.length := KRow.n a (fun _ => rfl) (by omega)
  rw [List.length_map] at hn
  refine ⟨xs.take n, by rw [List.map_take], ⟨?_, by have := a.cap; simp only; omega, fun g hg => ?_⟩, fun x hx => b x (List.mem_of_mem_take hx)⟩
  · rw [flat_len (C := txC) (sz := 2) (fun _ => rfl), List.length_take]; simp only; omega
  · have := rowOn_sub (lo := 0) (m := n) (sz := 2) (c := s.c) (a.on g hg) a.len (by omega) a.cap
    simp only [Nat.zero_mul, List.drop_zero] at this
    have e : (xs.flatMap txC).take (n * 2) = (xs.take n).flatMap txC := by
      conv => lhs; rw [← List.take_append_drop n xs, List.flatMap_append]
      rw [List.take_left' (by rw [flat_len (C := txC) (sz := 2) (fun _ => rfl), List.length_take]; omega)]
    rw [e] at this
    exact this
theorem ktxs_drop {s : SV} {W : List Tx} {n : Nat} (h : KTxs F s W) (hn : n ≤ W.length) : KTxs F ⟨sub? s.a n s.c 2, s.n - n, s.c - n⟩ (W.drop n) := by
  obtain ⟨xs, rfl, a, b⟩ := h
  have hsn : s.n = xs.length := KRow.n a (fun _ => rfl) (by omega)
  rw [List.length_map] at hn
  refine ⟨xs.drop n, by rw [List.map_drop], ⟨?_, by have := a.cap; simp only; omega, fun g hg => ?_⟩, fun x hx => b x (List.mem_of_mem_drop hx)⟩
  · rw [flat_len (C := txC) (sz := 2) (fun _ => rfl), List.length_drop]; simp only; omega
  · have := rowOn_sub (lo := n) (m := s.n - n) (sz := 2) (c := s.c - n) (a.on g hg) a.len (by omega) a.cap
    have e : ((xs.flatMap txC).drop (n * 2)).take ((s.n - n) * 2) = (xs.drop n).flatMap txC := by
      conv => lhs; rw [← List.take_append_drop n xs, List.flatMap_append]
      rw [List.drop_left' (by rw [flat_len (C := txC) (sz := 2) (fun _ => rfl), List.length_take]; omega), List.take_of_length_le (by rw [flat_len (C := txC) (sz := 2) (fun _ => rfl), List.length_drop]; omega)]
    rw [e] at this
    exact this
theorem kints_drop {s : SV} {l : List Int} {n : Nat} (h : KInts F s l) (hn : n ≤ l.length) : KInts F ⟨sub? s.a n s.c 1, s.n - n, s.c - n⟩ (l.drop n) := by
  have hsn := KInts.n h
  refine ⟨by rw [List.length_map, List.length_drop]; simp only; omega, by have := h.cap; simp only; omega, fun g hg => ?_⟩
  have := rowOn_sub (lo := n) (m := s.n - n) (sz := 1) (c := s.c - n) (KRow.on h g hg) h.len (by omega) h.cap
  rw [Nat.mul_one, Nat.mul_one, List.take_of_length_le (by rw [List.length_drop, List.length_map]; omega), ← List.map_drop] at this
  exact this
theorem formL_le : ∀ (l : List Tx) (q n : Int), 0 ≤ n → n ≤ formL l q n ∧ formL l q n ≤ n + l.length
  | [], q, n, _ => by unfold formL; simp
  | t :: r, q, n, h => by
    unfold formL
    split
    · simp; omega
    · have := formL_le r (q + (t.puts.length : Nat)) (n + 1) (by omega)
      simp only [List.length_cons]; omega
theorem ref_batch {N : Nat} {K : (Int × SV) × Int → World → Prop} (h : Ref p M F R w) (wf : Wf M.queue M) (ok : MgrOk N M) (hN : N ≤ 2 ^ 11) (hk : ∀ s' w', Ref p M.batch.1 F R w' → KTxs F s' M.batch.2.1.2 → K ((M.batch.2.1.1, s'), M.batch.2.2) w') : c_scarpref23_Manager_Batch (some ⟨p, 0, none⟩) w K := by
  obtain ⟨hF, bm, ts, sh, st, sq, qh, sv, xs, hf, h1⟩ := h
  have wo : WaitOk M := by obtain ⟨B, I, _⟩ := ok; exact I.wait (by omega)
  have hwl := waiting_len wo
  have hwp := waiting_puts wo
  have hql := wo.1
  obtain ⟨B, I, hB⟩ := ok
  have hnum := I.num
  have hout := I.out
  have hsq := hf.q.n
  have hsc := hf.q.cap
  refine scarpref23_Manager_Batch_go ?_
  unfold f_scarpref23_Manager_Batch
  refine st_newF h1 fun w1 h2 => ?_
  have fin : ∀ w' c, M.batch = (M, (0, []), c) → St [objA (some ⟨w.heap.size, 0, none⟩) [.int .i64 0, slv ⟨none, 0, 0⟩], pool F, mgO p bm ts sh st sq qh M, mpO bm sv M, tsO ts xs, Sl.all xs (trR bm), R] w' → K ((0, ⟨none, 0, 0⟩), c) w' := fun w' c e h' => by
    rw [e] at hk
    exact hk ⟨none, 0, 0⟩ w' ⟨hF, bm, ts, sh, st, sq, qh, sv, xs, hf, h'.cut 0 (by simp)⟩ KTxs.nil
  rw [onP_some]
  refine ⟨_, st_c1 h2 2 rfl rfl, bsplit_decide.2 ⟨fun q => st_s2 h2 0 rfl fun w4 h4 => ⟨(0, ⟨none, 0, 0⟩), ⟨st_c0 h4 0 rfl rfl, st_c1 h4 0 rfl rfl⟩, fin _ _ (by unfold Mgr.batch; rw [if_pos q]) h4⟩, fun q => ?_⟩⟩
  rw [onP_some]
  refine ⟨sq, st_c1 h2 2 rfl rfl, bsplit_decide.2 ⟨fun q0 => st_s2 h2 0 rfl fun w4 h4 => ⟨(0, ⟨none, 0, 0⟩), ⟨st_c0 h4 0 rfl rfl, st_c1 h4 0 rfl rfl⟩, fin _ _ (by unfold Mgr.batch; rw [if_neg q, if_pos (by omega)]) h4⟩, fun q0 => ?_⟩⟩
  have eb : M.batch = ({ M with out := formL M.waiting 0 0 }, (M.num + 1, M.waiting.take (formL M.waiting 0 0).toNat), 0) := by unfold Mgr.batch; rw [if_neg q, if_neg (by omega)]
  rw [eb] at hk
  have hfl := formL_le M.waiting 0 0 (by omega)
  rw [onP_some]
  refine ⟨sq, st_c1 h2 2 rfl rfl, rform_c (l := M.waiting) (hf.q.on (st_pool hF h2 1 rfl)) ⟨by omega, hwp⟩ ?_⟩
  rw [onP_some]
  refine st_s1 h2 2 rfl (by simp [rcells]) fun w15 h15 => st_drew h15 fun w17 h17 => ?_
  refine ⟨fun w' => w'.cell? ((⟨p, 0, none⟩ : Addr).add 9) = some (.int .i64 M.num) ∧ w'.cell? ((⟨p, 0, none⟩ : Addr).add 6) = some (.slice sq.a sq.n sq.c) ∧ w'.cell? ((⟨p, 0, none⟩ : Addr).add 8) = some (.int .i64 (formL M.waiting 0 0)), ⟨st_c1 h17 2 rfl rfl, st_c1 h17 2 rfl rfl, st_c1 h17 2 rfl rfl⟩, ?_⟩
  rw [onP_some]
  refine ⟨_, fun _ h => h.1, ?_⟩
  rw [onP_some]
  refine ⟨sq, fun _ h => h.2.1, ?_⟩
  rw [onP_some, wrap_of (by omega) (by omega)]
  refine ⟨_, fun _ h => h.2.2, by omega, by omega, by omega, ?_⟩
  refine st_s2 h17 0 rfl fun w27 h27 => ⟨⟨st_c1 h27 2 rfl rfl, st_c1 h27 2 rfl rfl, st_c1 h27 2 rfl rfl⟩, (M.num + 1, ⟨sub? sq.a 0 sq.c 2, (formL M.waiting 0 0).toNat, sq.c⟩), ⟨st_c0 h27 0 rfl rfl, st_c1 h27 0 rfl rfl⟩, ?_⟩
  refine hk ⟨sub? sq.a 0 sq.c 2, (formL M.waiting 0 0).toNat, sq.c⟩ w27 ⟨hF, bm, ts, sh, st, sq, qh, sv, xs, ⟨hf.vers, hf.bh, hf.bt, hf.q, hf.qh, hf.tr, hf.all⟩, h27.cut 0 (by simp)⟩ (ktxs_take hf.q (by omega))
end
end Go.Proofs.YtbolgpjcmchfoaaGreat
