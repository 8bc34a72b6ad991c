/- The reference's manager: batches that are done, histories. -/
import Derived.Test.YtbolgpjcmchfoaaGreatUn
namespace Go.Proofs.YtbolgpjcmchfoaaGreat
open Go Go.Vc Go.Sl Go.Mo
theorem one_rest {M : Mgr} {code : Int} {x : Int × Tx} : (doneOne code M x).queue = M.queue ∧ (doneOne code M x).out = M.out ∧ (doneOne code M x).num = M.num ∧ (doneOne code M x).base = M.base ∧ (doneOne code M x).given = M.given ∧ (doneOne code M x).read = M.read := by
  unfold doneOne Mgr.end_
  split
  · split <;> exact ⟨rfl, rfl, rfl, rfl, rfl, rfl⟩
  · split <;> exact ⟨rfl, rfl, rfl, rfl, rfl, rfl⟩
section
variable {p : Nat} {M : Mgr} {F : Heap → Prop} {R : HP} {w : World}
set_option maxHeartbeats 1000000 in
theorem ref_done {N : Nat} {code : Int} {K : Int → World → Prop} (h : Ref p M F R w) (wf : Wf M.queue M) (ok : MgrOk N M) (hN : N ≤ 2 ^ 11) (hk : ∀ F' w', (∀ h, F' h → F h) → Ref p (M.done code).1 F' R w' → K (M.done code).2 w') : c_scarpref23_Manager_Done (some ⟨p, 0, none⟩) code w K := by
  obtain ⟨hF, bm, ts, sh, st, sq, qh, sv, xs, hf, h1⟩ := h
  have wo : WaitOk M := by obtain ⟨B, I, _⟩ := ok; exact I.wait (by omega)
  have hwl := waiting_len wo
  have hwp := waiting_puts wo
  have hww := wf.waiting
  have hdw := wf_done wf code
  obtain ⟨B, I, hB⟩ := ok
  have hout := I.out
  have hnum := I.num
  have hlast := I.blast
  refine scarpref23_Manager_Done_go ?_
  unfold f_scarpref23_Manager_Done
  rw [onP_some]
  refine ⟨_, st_c1 h1 1 rfl rfl, bsplit_decide.2 ⟨fun q0 => ?_, fun q0 => ?_⟩⟩
  · have e : M.done code = (M, 14) := by unfold Mgr.done; rw [if_pos q0]
    rw [e] at hk
    exact hk F w (fun _ h => h) ⟨hF, bm, ts, sh, st, sq, qh, sv, xs, hf, h1⟩
  have hde := wf.done_eq code q0
  obtain ⟨n, hn⟩ : ∃ n : Nat, M.out = (n : Int) := ⟨M.out.toNat, by omega⟩
  have hnq : n ≤ M.queue.length := by omega
  have hne : M.out.toNat = n := by omega
  rw [hne] at hde
  have wfs : Wf (M.queue.drop 0) M := wf
  refine loop_i (fun (x : Int) w' => ∃ i : Nat, x = (i : Int) ∧ i ≤ n ∧ ∃ (Mi : Mgr) (F' : Heap → Prop) (sh st sv : SV) (xs : List (TR × Trn)), Mono F' ∧ (∀ h, F' h → F h) ∧ Mi = ((M.queue.take i).map fun k => (k, txOf M k)).foldl (doneOne code) M ∧ Wf (M.queue.drop i) Mi ∧ MgrIn (B + i) N Mi ∧ Mi.queue = M.queue ∧ Mi.out = M.out ∧ Mi.num = M.num ∧ (∀ k ∈ M.queue.drop i, lkp Mi.all k = lkp M.all k) ∧
    RefF F' sh st sq qh sv xs M.waiting Mi ∧ St [pool F', mgO p bm ts sh st sq qh Mi, mpO bm sv Mi, tsO ts xs, Sl.all xs (trR bm), R] w') (fun x _ => n - x.toNat)
    ⟨0, rfl, by omega, M, F, sh, st, sv, xs, hF, fun _ h => h, rfl, wfs, I, rfl, rfl, rfl, fun _ _ => rfl, hf, h1⟩ ?_
  clear h1 hf hF
  rintro x w4 ⟨i, rfl, hi, Mi, F', sh, st, sv, xs, f1, f2, hMi, hwi, Ii, hq1, hq2, hq3, hlk, hf, h4⟩
  have hsqn := hf.q.n
  have hqhn := KInts.n hf.qh
  rw [hq1] at hqhn
  rw [onP_some]
  refine ⟨_, st_c1 h4 1 rfl rfl, bsplit_decide.2 ⟨fun hlt => ?_, fun hge => ?_⟩⟩
  · have hin : i < n := by rw [hq2] at hlt; omega
    have hiq : i < M.queue.length := by omega
    have hiw : i < M.waiting.length := by omega
    obtain ⟨ad, d, ha, c1, c2, c3⟩ := hf.q.get (st_pool f1 h4 0 rfl) hiw
    have hdr := List.drop_eq_getElem_cons hiq
    have hwi' := hwi
    rw [hdr] at hwi'
    have hxl : xs.length ≤ 2 ^ 11 := by
      have : (xs.length : Int) ≤ Mi.book.last := by
        have h0 := hwi.bl
        rcases Nat.eq_zero_or_pos xs.length with e | e
        · omega
        · have := lkp_at hf.all (j := xs.length - 1) (by omega)
          have h1 := (hwi.hs (((xs.length - 1 : Nat) : Int) + 1)).1 (by rw [this]; rfl)
          omega
      have := Ii.blast
      omega
    have hWi : M.waiting[i] = txOf M M.queue[i] := by simp only [hww, List.getElem_map]
    have hlki := hlk M.queue[i] (by rw [hdr]; exact List.mem_cons_self)
    have htx : txOf M M.queue[i] = txOf Mi M.queue[i] := txOf_congr hlki.symm
    obtain ⟨T, hT, hTs⟩ := (hwi'.qs M.queue[i]).1 List.mem_cons_self
    obtain ⟨j, hj, hij, hjT⟩ := at_of hf.all hT
    have htT : txOf Mi M.queue[i] = ⟨T.time, T.buf.puts⟩ := txOf_some hT
    have hW2 : M.waiting[i] = ⟨T.time, T.buf.puts⟩ := by rw [hWi, htx, htT]
    have e1 := inc_of hiq (by have := I.qlen; omega)
    have hbl := Ii.blen
    have hti := Ii.trn hT
    have hgood : (txOf Mi M.queue[i]).puts.length ≤ 16 ∧ 0 ≤ (txOf Mi M.queue[i]).time ∧ (txOf Mi M.queue[i]).time ≤ 1099511627776 := by
      rw [htT]
      exact ⟨by rw [puts_length]; exact hti.buf.len, hti.time.1, hti.time.2⟩
    obtain ⟨o1, o2⟩ := Wf.one hwi' code
    obtain ⟨r1, r2, r3, r4, r5, r6⟩ := one_rest (M := Mi) (code := code) (x := (M.queue[i], txOf Mi M.queue[i]))
    have hMn : doneOne code Mi (M.queue[i], txOf Mi M.queue[i]) = ((M.queue.take (i + 1)).map fun k => (k, txOf M k)).foldl (doneOne code) M := by
      rw [List.take_succ_eq_append_getElem hiq, List.map_append, List.foldl_append, ← hMi]
      simp only [List.map_cons, List.map_nil, List.foldl_cons, List.foldl_nil]
      rw [htx]
    -- the rest of a turn
    have nxt : ∀ (F3 : Heap → Prop) (sh3 st3 sv3 : SV) (xs3 : List (TR × Trn)) (w3 : World), Mono F3 → (∀ h, F3 h → F' h) → RefF F3 sh3 st3 sq qh sv3 xs3 M.waiting (doneOne code Mi (M.queue[i], txOf Mi M.queue[i])) →
        St [pool F3, mgO p bm ts sh3 st3 sq qh (doneOne code Mi (M.queue[i], txOf Mi M.queue[i])), mpO bm sv3 (doneOne code Mi (M.queue[i], txOf Mi M.queue[i])), tsO ts xs3, Sl.all xs3 (trR bm), R] w3 →
        (∃ i_1 : Nat, IntKind.i64.wrap ((i : Int) + 1) = (i_1 : Int) ∧ i_1 ≤ n ∧ ∃ (Mi : Mgr) (F' : Heap → Prop) (sh st sv : SV) (xs : List (TR × Trn)), Mono F' ∧ (∀ h, F' h → F h) ∧ Mi = ((M.queue.take i_1).map fun k => (k, txOf M k)).foldl (doneOne code) M ∧ Wf (M.queue.drop i_1) Mi ∧ MgrIn (B + i_1) N Mi ∧ Mi.queue = M.queue ∧ Mi.out = M.out ∧ Mi.num = M.num ∧ (∀ k ∈ M.queue.drop i_1, lkp Mi.all k = lkp M.all k) ∧
          RefF F' sh st sq qh sv xs M.waiting Mi ∧ St [pool F', mgO p bm ts sh st sq qh Mi, mpO bm sv Mi, tsO ts xs, Sl.all xs (trR bm), R] w3) ∧ n - (IntKind.i64.wrap ((i : Int) + 1)).toNat < n - (i : Int).toNat := fun F3 sh3 st3 sv3 xs3 w3 g1 g2 g3 g4 =>
      ⟨⟨i + 1, e1, by omega, _, F3, sh3, st3, sv3, xs3, g1, fun h hh => f2 _ (g2 _ hh), hMn, o1, by have := doneOne_in (code := code) (x := (M.queue[i], txOf Mi M.queue[i])) Ii hgood; rwa [Nat.add_assoc] at this, r1.trans hq1, r2.trans hq2, r3.trans hq3, fun k hk => by rw [o2 k hk]; exact hlk k (by rw [hdr]; exact List.mem_cons_of_mem _ hk), g3, g4⟩, by simp only [e1]; omega⟩
    rw [onP_some]
    refine ⟨sq, st_c1 h4 1 rfl rfl, by omega, by omega, onP_i ha ⟨(M.waiting[i].time, d), ⟨c1, c2⟩, st_newF h4 fun w12 h12 => st_s2 h12 0 rfl fun w13 h13 => ?_⟩⟩
    rw [hW2] at c3 h13
    have hqi : ∀ {w' : World}, F' (hp w') → ∃ ad, qh.a = some ad ∧ w'.cell? (ad.add (i * 1)) = some (.int .i64 M.queue[i]) := fun {w'} hh => by
      obtain ⟨ad, a, b⟩ := KInts.get (w := w') hf.qh hh (i := i) (by rw [hq1]; exact hiq)
      refine ⟨ad, a, ?_⟩
      simp only [hq1] at b
      exact b
    obtain ⟨adq, haq, _⟩ := hqi (st_pool f1 h13 1 rfl)
    have hqc : ∀ {w' : World}, F' (hp w') → w'.cell? (adq.add (i * 1)) = some (.int .i64 M.queue[i]) := fun hh => by
      obtain ⟨ad', a, b⟩ := hqi hh
      rw [haq] at a; cases a; exact b
    refine bsplit_iff.2 ⟨fun qc => ?_, fun qc => ?_⟩
    · have qc' : code ≠ 0 := by simpa using qc
      have hone : doneOne code Mi (M.queue[i], txOf Mi M.queue[i]) = endR Mi M.queue[i] 4 0 code := by
        unfold doneOne Mgr.end_ endR
        rw [if_pos qc']
        simp only
        cases lkp Mi.all M.queue[i] <;> rfl
      rw [onP_some]
      refine ⟨qh, st_c1 h13 2 rfl rfl, by omega, by omega, onP_i haq ⟨_, hqc (st_pool f1 h13 1 rfl), ?_⟩⟩
      have h14 := h13.cut 0 (by simp)
      rw [hone] at nxt
      rw [hij] at nxt ⊢
      exact rend_c f1 hf h14 hj (by omega) (by omega) fun F3 sh3 st3 w3 g1 g2 g3 g4 => nxt F3 sh3 st3 sv _ w3 g1 g2 g3 g4
    · have qc' : code = 0 := by simpa using qc
      subst qc'
      refine st_drew h13 fun w21 h21 => ?_
      refine ⟨fun w' => w'.cell? ⟨p, 0, none⟩ = some (.pointer (some ⟨bm, 0, none⟩)) ∧ w'.cell? ⟨w4.heap.size, 0, none⟩ = some (.int .i64 T.time) ∧ w'.cell? ((⟨w4.heap.size, 0, none⟩ : Addr).add 1) = some (.slice d.a d.n d.c), ⟨st_c0 h21 2 rfl rfl, st_c0 h21 0 rfl rfl, st_c1 h21 0 rfl rfl⟩, ?_⟩
      rw [onP_some]
      refine ⟨_, fun _ h => h.1, (T.time, d), fun _ h => h.2, ?_⟩
      refine rmap_apply (X := Mi.m) (t := ⟨T.time, T.buf.puts⟩) f1 (st_swap01 h21) 2 rfl hf.vers c3 hwi.vo (by have := hgood.1; rw [htT] at this; simp only at this ⊢; omega) (flatV_le hwi.vo Ii.vers (by omega)) fun F3 sv3 w28 g1 g2 g3 h28 => ?_
      have hbk : (Mi.m.apply ⟨T.time, T.buf.puts⟩).1.blocks = Mi.m.blocks := by
        unfold XMap.apply; repeat' split
        all_goals rfl
      refine ⟨⟨st_c0 h28 2 rfl rfl, st_c0 h28 1 rfl rfl, st_c1 h28 1 rfl rfl⟩, _, st_c0 h28 1 rfl rfl, ?_⟩
      rw [onP_some]
      refine st_s1 h28 2 rfl (by simp [rcells]) fun w31 h31 => st_drew h31 fun w33 h33 => ?_
      have h34 : St [pool F3, objA (some ⟨w4.heap.size, 0, none⟩) [.int .i64 T.time, slv d], mgO p bm ts sh st sq qh { Mi with m := (Mi.m.apply ⟨T.time, T.buf.puts⟩).1, last := T.time }, mpO bm sv3 { Mi with m := (Mi.m.apply ⟨T.time, T.buf.puts⟩).1, last := T.time }, tsO ts xs, Sl.all xs (trR bm), R] w33 := by
        unfold mgO mpO rcells
        simp only [hbk]
        exact h33
      clear h33 h31 h28 h21
      have h35 : St [pool F3, mgO p bm ts sh st sq qh { Mi with m := (Mi.m.apply ⟨T.time, T.buf.puts⟩).1, last := T.time }, mpO bm sv3 { Mi with m := (Mi.m.apply ⟨T.time, T.buf.puts⟩).1, last := T.time }, tsO ts xs, Sl.all xs (trR bm), objA (some ⟨w4.heap.size, 0, none⟩) [.int .i64 T.time, slv d] * R] w33 := h34.to (by simp only [big_cons]; ac_rfl)
      have box : ∀ {w' : World} {X : HP}, Sat (objA (some ⟨w4.heap.size, 0, none⟩) [.int .i64 T.time, slv d] * R * X) w' → w'.cell? ⟨w4.heap.size, 0, none⟩ = some (.int .i64 T.time) := fun h => by
        have h9 := h.eq (mul_assoc' _ _ _)
        exact (objA_cells h9).1 0
      refine ⟨fun w' => w'.cell? ((⟨p, 0, none⟩ : Addr).add 7) = some (.slice qh.a qh.n qh.c) ∧ F' (hp w') ∧ w'.cell? ⟨w4.heap.size, 0, none⟩ = some (.int .i64 T.time), ⟨st_c1 h35 1 rfl rfl, g2 _ (st_pool g1 h35 0 rfl), box (h35.take 5 rfl)⟩, ?_⟩
      rw [onP_some]
      refine ⟨qh, fun _ h => h.1, by omega, by omega, onP_i haq ⟨_, fun w' hw' => hqc hw'.2.1, _, fun _ h => h.2.2, ?_⟩⟩
      have hm := hf.more g2
      have hf2 : RefF F3 sh st sq qh sv3 xs M.waiting { Mi with m := (Mi.m.apply ⟨T.time, T.buf.puts⟩).1, last := T.time } := ⟨g3, hm.bh, hm.bt, hm.q, hm.qh, hm.tr, hm.all⟩
      have hone : doneOne 0 Mi (M.queue[i], txOf Mi M.queue[i]) = endR { Mi with m := (Mi.m.apply ⟨T.time, T.buf.puts⟩).1, last := T.time } M.queue[i] 3 T.time 0 := by
        unfold doneOne Mgr.end_ endR
        rw [if_neg (by simp), htT]
        simp only [hT]
        rfl
      rw [hone] at nxt
      rw [hij] at nxt ⊢
      refine rend_c g1 hf2 h35 hj (by simp only; omega) (by omega) fun F4 sh4 st4 w43 m1 m2 m3 m4 => ⟨⟨st_c1 m4 1 rfl rfl, g2 _ (m2 _ (st_pool m1 m4 0 rfl)), box (m4.take 5 rfl)⟩, ?_⟩
      refine nxt F4 sh4 st4 sv3 _ w43 m1 (fun h hh => g2 _ (m2 _ hh)) m3 ?_
      have h50 : Sat (objA (some ⟨w4.heap.size, 0, none⟩) [.int .i64 T.time, slv d] * bigS [pool F4, mgO p bm ts sh4 st4 sq qh (endR { Mi with m := (Mi.m.apply ⟨T.time, T.buf.puts⟩).1, last := T.time } ((j : Int) + 1) 3 T.time 0), mpO bm sv3 (endR { Mi with m := (Mi.m.apply ⟨T.time, T.buf.puts⟩).1, last := T.time } ((j : Int) + 1) 3 T.time 0), tsO ts (xs.set j (xs[j].1, { xs[j].2 with state := 3, time := T.time, code := 0 })), Sl.all (xs.set j (xs[j].1, { xs[j].2 with state := 3, time := T.time, code := 0 })) (trR bm), R]) w43 := m4.to (by simp only [big_cons]; ac_rfl)
      exact h50.right
  · obtain rfl : i = n := by rw [hq2] at hge; omega
    rw [← hMi] at hde
    rw [hde] at hk hdw
    have hfin : ({ Mi with num := if code = 0 then M.num + 1 else M.num, queue := M.queue.drop i, out := 0 } : Mgr).waiting = M.waiting.drop i := by
      have h1 := hdw.waiting
      simp only at h1
      rw [h1, hww, ← List.map_drop]
      exact List.map_congr_left fun k hk' => txOf_congr (hlk k hk')
    have p1 : ∀ (nm : Int) (w47 : World), nm = (if code = 0 then M.num + 1 else M.num) → St [pool F', mgO p bm ts sh st sq qh { Mi with num := nm }, mpO bm sv Mi, tsO ts xs, Sl.all xs (trR bm), R] w47 → f_scarpref23_Manager_Done_p1 w47 (some ⟨p, 0, none⟩) K := fun nm w47 hnm h47 => by
      unfold f_scarpref23_Manager_Done_p1
      have hqc := hf.q.cap
      have hhc := KRow.cap hf.qh
      refine st_drew h47 fun w49 h49 => ⟨fun w' => w'.cell? ((⟨p, 0, none⟩ : Addr).add 6) = some (.slice sq.a sq.n sq.c) ∧ w'.cell? ((⟨p, 0, none⟩ : Addr).add 8) = some (.int .i64 Mi.out), ⟨st_c1 h49 1 rfl rfl, st_c1 h49 1 rfl rfl⟩, ?_⟩
      rw [onP_some]
      refine ⟨sq, fun _ h => h.1, ?_⟩
      rw [onP_some]
      refine ⟨_, fun _ h => h.2, by omega, by omega, by omega, ?_⟩
      rw [onP_some]
      refine st_s1 h49 1 rfl (by simp [rcells]) fun w57 h57 => st_drew h57 fun w59 h59 => ⟨fun w' => w'.cell? ((⟨p, 0, none⟩ : Addr).add 7) = some (.slice qh.a qh.n qh.c) ∧ w'.cell? ((⟨p, 0, none⟩ : Addr).add 8) = some (.int .i64 Mi.out), ⟨st_c1 h59 1 rfl rfl, st_c1 h59 1 rfl rfl⟩, ?_⟩
      rw [onP_some]
      refine ⟨qh, fun _ h => h.1, ?_⟩
      rw [onP_some]
      refine ⟨_, fun _ h => h.2, by omega, by omega, by omega, ?_⟩
      rw [onP_some]
      refine st_s1 h59 1 rfl (by simp [rcells]) fun w67 h67 => ?_
      rw [onP_some]
      refine st_s1 h67 1 rfl (by simp [rcells]) fun w69 h69 => ?_
      have hto : Mi.out.toNat = i := by rw [hq2]; omega
      rw [hto] at h69
      have kq := ktxs_drop hf.q (n := i) (by omega)
      have kh := kints_drop hf.qh (n := i) (by rw [hq1]; omega)
      rw [hq1] at kh
      refine hk F' w69 f2 ⟨f1, bm, ts, sh, st, ⟨sub? sq.a i sq.c 2, sq.n - i, sq.c - i⟩, ⟨sub? qh.a i qh.c 1, qh.n - i, qh.c - i⟩, sv, xs, ⟨hf.vers, hf.bh, hf.bt, (hfin.symm ▸ kq : KTxs F' _ (Mgr.waiting _)), kh, hf.tr, hf.all⟩, ?_⟩
      rw [← hnm]
      exact h69
    refine bsplit_decide.2 ⟨fun qc => ?_, fun qc => ?_⟩
    · rw [onP_some]
      refine ⟨_, st_c1 h4 1 rfl rfl, ?_⟩
      rw [onP_some, wrap_of (by rw [hq3]; omega) (by rw [hq3]; omega)]
      refine st_s1 h4 1 rfl (by simp [rcells]) fun w47 h47 => p1 (Mi.num + 1) w47 (by rw [if_pos qc, hq3]) h47
    · exact p1 Mi.num w4 (by rw [if_neg qc, hq3]) h4
end
end Go.Proofs.YtbolgpjcmchfoaaGreat
