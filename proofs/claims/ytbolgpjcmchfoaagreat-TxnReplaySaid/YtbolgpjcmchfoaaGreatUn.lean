/- The reference's manager: commits, batches that are done, histories. -/
import Derived.Test.YtbolgpjcmchfoaaGreatUm
namespace Go.Proofs.YtbolgpjcmchfoaaGreat
open Go Go.Vc Go.Sl Go.Mo
/-! ### When one may be committed: both say the same -/
theorem wroteAt_flat {X : XMap} (vo : VOk X) (h0 : ∀ q ∈ X.vers, 0 < q.2.length) {a k : Int} : wroteAt X a k ↔ ∃ v, (k, v) ∈ flatV X ∧ a < v.lba := by
  constructor
  · rintro ⟨l, hl, hlt⟩
    have hne : l ≠ [] := fun e => by have := h0 _ hl; simp only [e] at this; simp at this
    refine ⟨l.getLast hne, mem_flatV.2 ?_, ?_⟩
    · rw [versOf_of vo.1 hl]; exact List.getLast_mem hne
    · unfold lastT at hlt
      rw [List.getLastD_eq_getLast?, List.getLast?_eq_some_getLast hne] at hlt
      exact hlt
  · rintro ⟨v, hv, hlt⟩
    have hv' := mem_flatV.1 hv
    obtain ⟨q, hq, hk, hm⟩ := versOf_mem hv'
    simp only at hk hm
    have hne : q.2 ≠ [] := fun e => by rw [e] at hm; simp at hm
    refine ⟨q.2, by rw [← hk]; exact hq, ?_⟩
    unfold lastT
    rw [List.getLastD_eq_getLast?, List.getLast?_eq_some_getLast hne]
    have hs := (vo.2 q hq).1
    have e := List.dropLast_concat_getLast hne
    rw [← e] at hm hs
    rw [List.map_append, List.pairwise_append] at hs
    simp only [Option.getD_some]
    rcases List.mem_append.1 hm with p | p
    · have := hs.2.2 _ (List.mem_map_of_mem p) (q.2.getLast hne).lba (by simp)
      omega
    · have : v = q.2.getLast hne := by simpa using p
      rw [← this]; exact hlt
theorem validR_eq {X : XMap} {q : List Tx} {a : Int} {r s r' s' : XSet} (vo : VOk X) (h0 : ∀ q ∈ X.vers, 0 < q.2.length) (okr : ∀ x ∈ r.l, okX x) (oks : ∀ x ∈ s.l, okX x) (er : r'.l = r.l) (es : s'.l = s.l) : validR (flatV X) q a r s = validM X q a r' s' := by
  obtain ⟨v8, v0⟩ := valid_iff (M := X) (q := q) (a := a) (r := r') (s := s') (by rw [er]; exact okr) (by rw [es]; exact oks)
  rw [er, es] at v8 v0
  have hag : ∀ t : Tx, (againstM t r || againstM t s) = true ↔ ∃ p ∈ t.puts, cov r.l p.lba ∨ cov s.l p.lba := fun t => by
    unfold againstM
    simp only [Bool.or_eq_true, List.any_eq_true, has_cov okr, has_cov oks]
    constructor
    · rintro (⟨p, hp, h⟩ | ⟨p, hp, h⟩)
      · exact ⟨p, hp, .inl h⟩
      · exact ⟨p, hp, .inr h⟩
    · rintro ⟨p, hp, h | h⟩
      · exact .inl ⟨p, hp, h⟩
      · exact .inr ⟨p, hp, h⟩
  unfold validR
  by_cases hs : s.l = []
  · rw [if_pos hs, v0 fun h => h.1 hs]
  · rw [if_neg hs]
    by_cases hc : ∃ k, (cov r.l k ∨ cov s.l k) ∧ (wroteAt X a k ∨ waitsAt q k)
    · rw [v8 ⟨hs, hc⟩, if_pos]
      obtain ⟨k, hk, h | ⟨t, ht, p, hp, e⟩⟩ := hc
      · obtain ⟨v, hv, hlt⟩ := (wroteAt_flat vo h0).1 h
        rw [Bool.or_eq_true]
        left
        refine List.any_eq_true.2 ⟨_, hv, ?_⟩
        simp only [Bool.and_eq_true, decide_eq_true_eq, Bool.or_eq_true, has_cov okr, has_cov oks]
        exact ⟨hlt, hk⟩
      · rw [Bool.or_eq_true]
        right
        exact List.any_eq_true.2 ⟨t, ht, (hag t).2 ⟨p, hp, e ▸ hk⟩⟩
    · rw [v0 fun h => hc h.2, if_neg]
      rw [Bool.or_eq_true]
      rintro (h | h)
      · obtain ⟨v, hv, h⟩ := List.any_eq_true.1 h
        simp only [Bool.and_eq_true, decide_eq_true_eq, Bool.or_eq_true, has_cov okr, has_cov oks] at h
        exact hc ⟨v.1, h.2, .inl ((wroteAt_flat vo h0).2 ⟨v.2, hv, h.1⟩)⟩
      · obtain ⟨t, ht, h⟩ := List.any_eq_true.1 h
        obtain ⟨p, hp, h⟩ := (hag t).1 h
        exact hc ⟨p.lba, h, .inr ⟨t, ht, p, hp, rfl⟩⟩
section
variable {p bm : Nat} {ts sh st sq qh sv : SV} {xs : List (TR × Trn)} {W : List Tx} {M : Mgr} {F : Heap → Prop} {R : HP} {w : World}
theorem runsplit {j : Nat} (hj : j < xs.length) (h : St [pool F, tV bm xs[j].1 xs[j].2, mpO bm sv M, tB xs[j].1 xs[j].2, tR xs[j].1, tP xs[j].1 xs[j].2, mgO p bm ts sh st sq qh M, tsO ts xs, Sl.all (xs.eraseIdx j) (trR bm), R] w) :
    St [pool F, mgO p bm ts sh st sq qh M, mpO bm sv M, tsO ts xs, Sl.all xs (trR bm), R] w := by
  have := rjoin (y := xs[j]) h hj rfl
  rwa [set_self (List.getElem?_eq_getElem hj)] at this
theorem txC_snoc (ys : List (SV × Tx)) (d : SV) (t : Tx) : ys.flatMap txC ++ [.int .i64 t.time, .slice d.a d.n d.c] = (ys ++ [(d, t)]).flatMap txC := by simp [txC, slv]
set_option maxHeartbeats 1000000 in
theorem ref_commit {N : Nat} {i : Int} {K : Int → World → Prop} (h : Ref p M F R w) (wf : Wf M.queue M) (ok : MgrOk N M) (hN : N ≤ 2 ^ 11) (hk : ∀ F' w', (∀ h, F' h → F h) → Ref p (M.commit i).1 F' R w' → K (M.commit i).2 w') : c_scarpref23_Manager_Commit (some ⟨p, 0, none⟩) i w K := by
  obtain ⟨hF, bm, ts, sh, st, sq, qh, sv, xs, hf, h1⟩ := h
  have hn := xs_le wf ok hN hf.all
  have wo : WaitOk M := by obtain ⟨B, I, _⟩ := ok; exact I.wait (by omega)
  have hwl := waiting_len wo
  have hwp := waiting_puts wo
  obtain ⟨B, I, hB⟩ := ok
  have hbl := I.blen
  have hgv := I.given
  have hql := I.qlen
  refine scarpref23_Manager_Commit_go ?_
  unfold f_scarpref23_Manager_Commit
  refine ropen_c hf h1 (by omega) (fun hno => bsplit_iff.2 ⟨fun _ => ?_, fun e => (by cases e)⟩) fun j hj hi ho hst => bsplit_iff.2 ⟨fun e => (by cases e), fun _ => ?_⟩
  · have e : M.commit i = (M, 5) := by unfold Mgr.commit; rw [hno]
    rw [e] at hk
    exact hk F w (fun _ h => h) ⟨hF, bm, ts, sh, st, sq, qh, sv, xs, hf, h1⟩
  subst hi
  have hlk := lkp_at hf.all hj
  have hnq : ((j : Int) + 1) ∉ M.queue := wf.notQ hlk (by omega)
  have t := hf.tr _ (List.getElem_mem hj)
  have ti := I.trn hlk
  have hs := rsplit h1 hj
  have hpl := puts_length xs[j].2.buf
  have hbn := t.bl.n
  have hb16 := ti.buf.len
  -- how it ends
  have fin : ∀ (F2 : Heap → Prop) (w2 : World) (st' tm cd c : Int), Mono F2 → (∀ h, F2 h → F h) → St [pool F2, mgO p bm ts sh st sq qh M, mpO bm sv M, tsO ts xs, Sl.all xs (trR bm), R] w2 → M.commit ((j : Int) + 1) = (endR M ((j : Int) + 1) st' tm cd, c) →
      c_scarpref23_Manager_end (some ⟨p, 0, none⟩) ((j : Int) + 1) st' tm cd w2 fun _ w' => K c w' := fun F2 w2 st' tm cd c f1 f2 h2 e => by
    rw [e] at hk
    have hw : (endR M ((j : Int) + 1) st' tm cd).waiting = M.waiting := by
      unfold endR; rw [hlk]
      exact waiting_congr rfl fun k hk' => by
        show lkp (put _ _ _) k = _
        rw [lkp_put, if_neg fun e => by subst e; exact hnq hk']
    exact rend_c f1 (hf.more f2) h2 hj (by omega) (by omega) fun F' sh2 st2 w' g1 g2 g3 g4 => hk F' w' (fun h hh => f2 _ (g2 _ hh)) ⟨g1, bm, ts, sh2, st2, sq, qh, sv, _, by rw [hw]; exact g3, g4⟩
  rw [onP_some]
  refine ⟨_, st_c1 hs 5 rfl rfl, ?_⟩
  rw [onP_some]
  refine ⟨xs[j].1.bl, st_c1 hs 3 rfl rfl, bsplit_decide.2 ⟨fun q0 => ?_, fun q0 => ?_⟩⟩
  · rw [onP_some]
    refine ⟨_, st_c1 hs 5 rfl rfl, ?_⟩
    rw [onP_some]
    refine ⟨_, st_c1 hs 1 rfl rfl, ?_⟩
    refine fin F w 3 _ 0 0 hF (fun _ h => h) h1 ?_
    unfold Mgr.commit Mgr.end_ endR
    rw [ho, hlk]
    simp only
    rw [if_pos (by omega)]
    simp only [lkp_put, if_true, put_put]
    rw [← t.at_]
    rfl
  have hd0 : ¬ xs[j].2.buf.data.length = 0 := by omega
  have hco : ∀ c, M.may xs[j].2 = c → c ≠ 0 → M.commit ((j : Int) + 1) = (endR M ((j : Int) + 1) 4 0 c, c) := fun c hc h0 => by
    unfold Mgr.commit Mgr.end_ endR
    rw [ho, hlk]
    simp only
    rw [if_neg hd0, hc, if_pos h0]
    rfl
  rw [onP_some]
  refine ⟨_, st_c1 hs 6 rfl rfl, bsplit_iff.2 ⟨fun qr => ?_, fun qr => ?_⟩⟩
  · exact fin F w 4 0 10 10 hF (fun _ h => h) h1 (hco 10 (by unfold Mgr.may; rw [if_pos qr]) (by omega))
  have qr' : ¬ M.read = true := by rw [qr]; simp
  refine st_drew hs fun w18 h18 => ?_
  refine ⟨fun w' => w'.cell? ⟨p, 0, none⟩ = some (.pointer (some ⟨bm, 0, none⟩)) ∧ w'.cell? ((⟨p, 0, none⟩ : Addr).add 6) = some (.slice sq.a sq.n sq.c) ∧ w'.cell? ((⟨xs[j].1.p, 0, none⟩ : Addr).add 3) = some (.pointer (some ⟨xs[j].1.v, 0, none⟩)) ∧ w'.cell? ((⟨xs[j].1.v, 0, none⟩ : Addr).add 2) = some (.int .i64 xs[j].2.view.at_) ∧ w'.cell? ((⟨xs[j].1.p, 0, none⟩ : Addr).add 4) = some (.pointer (some ⟨xs[j].1.b, 0, none⟩)),
    ⟨st_c0 h18 6 rfl rfl, st_c1 h18 6 rfl rfl, st_c1 h18 5 rfl rfl, st_c1 h18 1 rfl rfl, st_c1 h18 5 rfl rfl⟩, ?_⟩
  rw [onP_some]
  refine ⟨_, fun _ h => h.1, ?_⟩
  rw [onP_some]
  refine ⟨sq, fun _ h => h.2.1, ?_⟩
  rw [onP_some]
  refine ⟨_, fun _ h => h.2.2.1, ?_⟩
  rw [onP_some]
  refine ⟨_, fun _ h => h.2.2.2.1, ?_⟩
  rw [onP_some]
  refine ⟨_, fun _ h => h.2.2.1, ?_⟩
  rw [onP_some, onP_some]
  refine ⟨_, fun _ h => h.2.2.2.2, ?_⟩
  have hpo : ∀ y ∈ xs[j].2.buf.puts, 0 ≤ y.lba ∧ y.lba < 1048576 := fun y hy => by
    have h1 := mem_puts (a := xs[j].2.buf.blocks) (b := xs[j].2.buf.most) (d := xs[j].2.buf.data) (p := y)
    have := (ti.buf.data _ (lkp_mem (h1.1 hy))).1
    have := I.blocks
    simp only at *; omega
  obtain ⟨o1, o2, o3⟩ := setOf_ok _ hpo
  refine rbuf_set hF h18 2 rfl t.bl hpo (by rw [hpl]; omega) fun F2 ss bs w39 f1 f2 f3 h39 => ?_
  refine ⟨⟨st_c0 h39 7 rfl rfl, st_c1 h39 7 rfl rfl, st_c1 h39 6 rfl rfl, st_c1 h39 2 rfl rfl, st_c1 h39 6 rfl rfl⟩, ?_⟩
  have hF39 := st_pool f1 h39 0 rfl
  have hm := hf.more f2
  have t2 := hm.tr _ (List.getElem_mem hj)
  have okv : ∀ x ∈ xs[j].2.view.set.l, okX x := fun x hx => ti.set.1 x hx
  have hsl := ti.slen
  rw [add_mk]
  refine rvalid_c (vs := flatV M.m) (q := M.waiting) (r := xs[j].2.view.set) (s := ⟨1048576, setOf xs[j].2.buf.puts⟩) (st_c0 h39 3 rfl rfl) (hm.vers.on hF39) (by have := flatV_le wf.vo I.vers (by omega); omega) (orr := 3) (st_c0 h39 2 rfl rfl) (KExts.on t2.sl hF39) (by omega) okv (os := 0) (st_c0 h39 1 rfl rfl) (KExts.on f3 hF39) (by simp only; omega) o2
    (hm.q.on hF39) ⟨by omega, fun y hy => by have := hwp y hy; omega⟩ fun w41 k41 => ?_
  have h41' := h39.keep k41
  have hval : validR (flatV M.m) M.waiting xs[j].2.view.at_ xs[j].2.view.set ⟨1048576, setOf xs[j].2.buf.puts⟩ = validM M.m M.waiting xs[j].2.at_ (viewSet xs[j].2.view) (bufSet xs[j].2.buf) := by
    rw [t.at_]
    refine validR_eq wf.vo (fun q hq => (I.vers.2.2 q hq).2.1) okv o2 ?_ (bufSet_eq hpo)
    unfold viewSet XSet.add
    have hall : xs[j].2.view.set.l.all may = true := List.all_eq_true.2 fun x hx => by have := okv x hx; have := t.wb x hx; unfold okX at *; simp [may]; omega
    rw [if_neg (by rw [hall]; simp)]
    by_cases q : xs[j].2.view.set.l.length = 0
    · rw [if_pos q]
      simp only
      exact (List.length_eq_zero_iff.1 q).symm
    · rw [if_neg q]
      simp only [List.nil_append]
      rw [join_nf t.nf, if_neg (by omega)]
  rw [hval]
  refine ⟨⟨st_c0 h41' 7 rfl rfl, st_c1 h41' 7 rfl rfl, st_c1 h41' 6 rfl rfl, st_c1 h41' 2 rfl rfl, st_c1 h41' 6 rfl rfl⟩, ?_⟩
  have h41 := h41'.cut 1 (by simp)
  clear h41' h39 h18
  have hv8 := valid_iff (M := M.m) (q := M.waiting) (a := xs[j].2.at_) (r := viewSet xs[j].2.view) (s := bufSet xs[j].2.buf) (by unfold viewSet; exact add_okX fun x hx => by simp at hx) (by rw [show (bufSet xs[j].2.buf).l = setOf xs[j].2.buf.puts from bufSet_eq hpo]; exact o2)
  have hv : validM M.m M.waiting xs[j].2.at_ (viewSet xs[j].2.view) (bufSet xs[j].2.buf) = 8 ∨ validM M.m M.waiting xs[j].2.at_ (viewSet xs[j].2.view) (bufSet xs[j].2.buf) = 0 := by
    by_cases q : clashes M.m M.waiting xs[j].2.at_ (viewSet xs[j].2.view).l (bufSet xs[j].2.buf).l
    · exact .inl (hv8.1 q)
    · exact .inr (hv8.2 q)
  refine bsplit_iff.2 ⟨fun qv => ?_, fun qv => ?_⟩
  · have qv' : validM M.m M.waiting xs[j].2.at_ (viewSet xs[j].2.view) (bufSet xs[j].2.buf) ≠ 0 := by simpa using qv
    refine fin F2 w41 4 0 8 8 f1 f2 (runsplit hj h41) (hco 8 ?_ (by omega))
    unfold Mgr.may
    rw [if_neg qr', if_pos qv']
    rcases hv with e | e
    · exact e
    · exact absurd e qv'
  have qv' : ¬ validM M.m M.waiting xs[j].2.at_ (viewSet xs[j].2.view) (bufSet xs[j].2.buf) ≠ 0 := by simpa using qv
  rw [onP_some]
  refine ⟨_, st_c1 h41 6 rfl rfl, bsplit_decide.2 ⟨fun qt => ?_, fun qt => ?_⟩⟩
  · refine fin F2 w41 4 0 11 11 f1 f2 (runsplit hj h41) (hco 11 ?_ (by omega))
    unfold Mgr.may
    rw [if_neg qr', if_neg qv', if_pos qt]
  have hmay : M.may xs[j].2 = 0 := by unfold Mgr.may; rw [if_neg qr', if_neg qv', if_neg qt]
  have hc : M.commit ((j : Int) + 1) = ({ M with given := M.given + 1, all := put M.all ((j : Int) + 1) { xs[j].2 with state := 2, time := M.given + 1 }, queue := M.queue ++ [(j : Int) + 1] }, 0) := by
    unfold Mgr.commit
    rw [ho]
    simp only
    rw [if_neg hd0, if_neg (by rw [hmay]; simp)]
  rw [hc] at hk
  clear fin hco hc
  rw [onP_some]
  refine ⟨_, st_c1 h41 6 rfl rfl, ?_⟩
  rw [onP_some, wrap_of (by omega) (by omega)]
  refine st_s1 h41 6 rfl (by simp [rcells]) fun w51 h51 => ?_
  rw [onP_some]
  refine st_s0 h51 5 rfl (by simp) fun w53 h53 => ?_
  rw [onP_some]
  refine ⟨_, st_c1 h53 6 rfl rfl, ?_⟩
  rw [onP_some]
  refine st_s1 h53 5 rfl (by simp) fun w57 h57 => st_drew h57 fun w59 h59' => ?_
  have h59 : St [pool F2, tV bm xs[j].1 xs[j].2, mpO bm sv M, tB xs[j].1 xs[j].2, tR xs[j].1, tP xs[j].1 { xs[j].2 with state := 2, time := M.given + 1 }, objA (some ⟨p, 0, none⟩) (rcells bm ts sh st sq qh { M with given := M.given + 1 }), tsO ts xs, Sl.all (xs.eraseIdx j) (trR bm), R] w59 := h59'
  clear h59' h57 h53 h51
  have one1 : ∀ l : List Int, (l.map intv).all Vc.one = true := fun l => by
    rw [List.all_eq_true]; intro x hx; obtain ⟨n, _, rfl⟩ := List.mem_map.1 hx; rfl
  obtain ⟨ws, hws, hwrow, hwk⟩ := id hm.q
  have hqn := hm.q.n
  have hqhn := KInts.n hm.qh
  have htx1 : (ws.flatMap txC).length = sq.n * 2 := hwrow.len
  have hone2 : (ws.flatMap txC).all Vc.one = true := flat_all (C := txC) (fun _ => rfl) ws
  have hS : ∀ {w' : World} {l : List HP}, St (l ++ [pool F2, tV bm xs[j].1 xs[j].2, mpO bm sv M, tB xs[j].1 xs[j].2, tR xs[j].1, tP xs[j].1 { xs[j].2 with state := 2, time := M.given + 1 }, objA (some ⟨p, 0, none⟩) (rcells bm ts sh st sq qh { M with given := M.given + 1 }), tsO ts xs, Sl.all (xs.eraseIdx j) (trR bm), R]) w' →
      w'.cell? ((⟨p, 0, none⟩ : Addr).add 6) = some (.slice sq.a sq.n sq.c) ∧ w'.cell? ((⟨p, 0, none⟩ : Addr).add 10) = some (.int .i64 (M.given + 1)) ∧ w'.cell? ((⟨xs[j].1.p, 0, none⟩ : Addr).add 4) = some (.pointer (some ⟨xs[j].1.b, 0, none⟩)) ∧ w'.cell? ((⟨xs[j].1.b, 0, none⟩ : Addr).add 2) = some (.slice xs[j].1.bl.a xs[j].1.bl.n xs[j].1.bl.c) := fun {w' l} h => by
    have g : ∀ k (x : HP), ([pool F2, tV bm xs[j].1 xs[j].2, mpO bm sv M, tB xs[j].1 xs[j].2, tR xs[j].1, tP xs[j].1 { xs[j].2 with state := 2, time := M.given + 1 }, objA (some ⟨p, 0, none⟩) (rcells bm ts sh st sq qh { M with given := M.given + 1 }), tsO ts xs, Sl.all (xs.eraseIdx j) (trR bm), R] : List HP)[k]? = some x → (l ++ [pool F2, tV bm xs[j].1 xs[j].2, mpO bm sv M, tB xs[j].1 xs[j].2, tR xs[j].1, tP xs[j].1 { xs[j].2 with state := 2, time := M.given + 1 }, objA (some ⟨p, 0, none⟩) (rcells bm ts sh st sq qh { M with given := M.given + 1 }), tsO ts xs, Sl.all (xs.eraseIdx j) (trR bm), R])[l.length + k]? = some x := fun k x hx => by
      rw [List.getElem?_append_right (by omega), Nat.add_sub_cancel_left]; exact hx
    exact ⟨st_c1 h _ (g 6 _ rfl) rfl, st_c1 h _ (g 6 _ rfl) rfl, st_c1 h _ (g 5 _ rfl) rfl, st_c1 h _ (g 3 _ rfl) rfl⟩
  -- what comes behind the first row
  have tail : ∀ (w75 w74 : World) (s73 : SV), s73.n = ws.length → St (objA (some ⟨w74.heap.size, 0, none⟩) [.int .i64 (M.given + 1), slv xs[j].1.bl] :: ownS 2 s73 (ws.flatMap txC) :: [pool F2, tV bm xs[j].1 xs[j].2, mpO bm sv M, tB xs[j].1 xs[j].2, tR xs[j].1, tP xs[j].1 { xs[j].2 with state := 2, time := M.given + 1 }, objA (some ⟨p, 0, none⟩) (rcells bm ts sh st sq qh { M with given := M.given + 1 }), tsO ts xs, Sl.all (xs.eraseIdx j) (trR bm), R]) w75 →
      f_scarpref23_Manager_Commit_p2 (fun w' => w'.cell? ((⟨p, 0, none⟩ : Addr).add 6) = some (.slice sq.a sq.n sq.c) ∧ w'.cell? ((⟨p, 0, none⟩ : Addr).add 10) = some (.int .i64 (M.given + 1)) ∧ w'.cell? ((⟨xs[j].1.p, 0, none⟩ : Addr).add 4) = some (.pointer (some ⟨xs[j].1.b, 0, none⟩)) ∧ w'.cell? ((⟨xs[j].1.b, 0, none⟩ : Addr).add 2) = some (.slice xs[j].1.bl.a xs[j].1.bl.n xs[j].1.bl.c)) w75 s73 w74 (some ⟨p, 0, none⟩) ((j : Int) + 1) K := fun w75 w74 s73 n73 h75 => by
    have hwsl : ws.length = M.queue.length := by rw [← hwl, ← hws, List.length_map]
    unfold f_scarpref23_Manager_Commit_p2
    refine ⟨hS (l := [_, _]) h75, st_push h75 1 rfl 0 rfl rfl rfl (by omega) (by omega) rfl fun s76 w77 _ h77 => ⟨hS (l := [_, _]) h77, ?_⟩⟩
    rw [onP_some]
    refine st_s1 h77 8 rfl (by simp [rcells]) fun w79 h79 => st_emptyF 1 h79 fun w80 h80 => ?_
    rw [onP_some]
    refine ⟨qh, st_c1 h80 9 rfl rfl, ?_⟩
    refine st_append h80 0 rfl (KRow.on hm.qh _ (st_pool f1 h80 3 rfl)) hm.qh.len (by omega) (one1 _) (by simp only; omega) (by omega) rfl fun s83 w84 n83 h84 => st_newF h84 fun w85 h85 => ?_
    have n83' : s83.n = M.queue.length := by rw [n83, hqhn]; simp
    refine st_push h85 1 rfl 0 rfl rfl rfl (by omega) (by omega) rfl fun s86 w87 _ h87 => ?_
    rw [onP_some]
    refine st_s1 h87 10 rfl (by simp [rcells]) fun w89 h89 => ?_
    have h90 : St (ownS 1 s86 ((M.queue ++ [(j : Int) + 1]).map intv) :: objA (some ⟨w74.heap.size, 0, none⟩) [.int .i64 (M.given + 1), slv xs[j].1.bl] :: ownS 2 s76 (ws.flatMap txC ++ [.int .i64 (M.given + 1), slv xs[j].1.bl]) :: [pool F2, tV bm xs[j].1 xs[j].2, mpO bm sv M, tB xs[j].1 xs[j].2, tR xs[j].1, tP xs[j].1 { xs[j].2 with state := 2, time := M.given + 1 }, objA (some ⟨p, 0, none⟩) (rcells bm ts sh st s76 s86 { M with given := M.given + 1 }), tsO ts xs, Sl.all (xs.eraseIdx j) (trR bm), R]) w89 := by
      rw [List.map_append]
      exact h89.cut 0 (by simp)
    clear h89 h87 h85 h84 h80 h79 h77 h75
    have h91 : St (ownS 2 s76 ((ws ++ [(xs[j].1.bl, (⟨M.given + 1, xs[j].2.buf.puts⟩ : Tx))]).flatMap txC) :: pool F2 :: ownS 1 s86 ((M.queue ++ [(j : Int) + 1]).map intv) :: [tV bm xs[j].1 xs[j].2, mpO bm sv M, tB xs[j].1 xs[j].2, tR xs[j].1, tP xs[j].1 { xs[j].2 with state := 2, time := M.given + 1 }, objA (some ⟨p, 0, none⟩) (rcells bm ts sh st s76 s86 { M with given := M.given + 1 }), tsO ts xs, Sl.all (xs.eraseIdx j) (trR bm), R]) w89 := by
      rw [← txC_snoc ws xs[j].1.bl ⟨M.given + 1, xs[j].2.buf.puts⟩]
      have := h90.cut 1 (by simp)
      exact this.to (by simp only [big_cons, List.eraseIdx_cons_succ, List.eraseIdx_cons_zero]; unfold slv; ac_rfl)
    obtain ⟨F3, g1, g2, g3, g4⟩ := freeze f1 h91
    obtain ⟨F4, e1, e2, e3, e4⟩ := freeze g1 (st_swap01 g4)
    have h92 := rjoin (y := (xs[j].1, { xs[j].2 with state := 2, time := M.given + 1 })) (j := j) (A := objA (some ⟨p, 0, none⟩) (rcells bm ts sh st s76 s86 { M with given := M.given + 1 })) (B := mpO bm sv M) (xs := xs) (F := F4) (R := R) (w := w89) e4 hj rfl
    have hm4 := hm.more fun h hh => g2 _ (e2 _ hh)
    have hw2 : ({ M with given := M.given + 1, all := put M.all ((j : Int) + 1) { xs[j].2 with state := 2, time := M.given + 1 }, queue := M.queue ++ [(j : Int) + 1] } : Mgr).waiting = M.waiting ++ [⟨M.given + 1, xs[j].2.buf.puts⟩] := by
      have := waiting_put (M := M) (T := { xs[j].2 with state := 2, time := M.given + 1 }) hnq
      unfold Mgr.waiting at this ⊢
      simp only [List.filterMap_append] at this ⊢
      rw [this]
      congr 1
      simp [lkp_put]
    have hkt : KTxs F4 s76 (M.waiting ++ [⟨M.given + 1, xs[j].2.buf.puts⟩]) := by
      refine ⟨ws ++ [(xs[j].1.bl, ⟨M.given + 1, xs[j].2.buf.puts⟩)], by rw [List.map_append, hws]; rfl, KRow.more g3 e2, fun x hx => ?_⟩
      rcases List.mem_append.1 hx with e | e
      · exact (hwk x e).more fun h hh => g2 _ (e2 _ hh)
      · obtain rfl := List.mem_singleton.1 e
        exact t2.bl.more fun h hh => g2 _ (e2 _ hh)
    refine hk F4 w89 (fun h hh => f2 _ (g2 _ (e2 _ hh))) ⟨e1, bm, ts, sh, st, s76, s86, sv, _, ?_, h92⟩
    refine ⟨hm4.vers, hm4.bh, hm4.bt, (hw2.symm ▸ hkt : KTxs F4 s76 (Mgr.waiting _)), e3, fun x hx => ?_, ?_⟩
    · rcases List.mem_or_eq_of_mem_set hx with e | e
      · exact hm4.tr x e
      · subst e
        have t4 := hm4.tr _ (List.getElem_mem hj)
        exact ⟨t4.sl, t4.ys, t4.yk, t4.bl, t4.at_, t4.nf, t4.wb⟩
    · exact put_at hf.all hj (xs[j].1, { xs[j].2 with state := 2, time := M.given + 1 })
  refine ⟨fun w' => w'.cell? ((⟨p, 0, none⟩ : Addr).add 6) = some (.slice sq.a sq.n sq.c) ∧ w'.cell? ((⟨p, 0, none⟩ : Addr).add 10) = some (.int .i64 (M.given + 1)) ∧ w'.cell? ((⟨xs[j].1.p, 0, none⟩ : Addr).add 4) = some (.pointer (some ⟨xs[j].1.b, 0, none⟩)) ∧ w'.cell? ((⟨xs[j].1.b, 0, none⟩ : Addr).add 2) = some (.slice xs[j].1.bl.a xs[j].1.bl.n xs[j].1.bl.c), hS (l := []) h59, ?_⟩
  rw [onP_some]
  refine ⟨sq, fun _ h => h.1, ?_⟩
  rw [onP_some]
  refine ⟨_, fun _ h => h.2.1, ?_⟩
  rw [onP_some]
  refine ⟨_, fun _ h => h.2.2.1, ?_⟩
  rw [onP_some]
  have hrow2 : ∀ {w' : World}, F2 (hp w') → rowOn (hp w') sq (ws.flatMap txC) := fun h => hwrow.on _ h
  have hwsn : sq.n = ws.length := KRow.n hwrow (fun _ => rfl) (by omega)
  have hwsl : ws.length = M.queue.length := by rw [← hwl, ← hws, List.length_map]
  refine ⟨xs[j].1.bl, fun _ h => h.2.2.2, st_emptyF 2 h59 fun w72 h72 => ⟨hS (l := [_]) h72, ?_, ?_⟩, st_newF h59 fun w107 h107 => ⟨hS (l := [_]) h107, ?_⟩⟩
  · refine st_append h72 0 rfl (hrow2 (st_pool f1 h72 1 rfl)) htx1 (by omega) hone2 (by simp only; omega) (by omega) rfl fun s73 w74 n73 h74 => ⟨hS (l := [_]) h74, st_newF h74 fun w75 h75 => tail w75 w74 s73 (by rw [n73, hwsn]; simp) h75⟩
  · refine st_newF h72 fun w90 h90 => ?_
    unfold f_scarpref23_Manager_Commit_p1
    refine ⟨hS (l := [_, _]) h90, st_append h90 1 rfl (hrow2 (st_pool f1 h90 2 rfl)) htx1 (by omega) hone2 (by simp only; omega) (by omega) rfl fun s91 w92 n91 h92 => tail w92 w72 s91 (by rw [n91, hwsn]; simp) h92⟩
  · refine st_emptyF 2 h107 fun w108 h108 => ?_
    unfold f_scarpref23_Manager_Commit_p1
    refine ⟨hS (l := [_, _]) h108, st_append h108 0 rfl (hrow2 (st_pool f1 h108 2 rfl)) htx1 (by omega) hone2 (by simp only; omega) (by omega) rfl fun s91 w92 n91 h92 => tail w92 w59 s91 (by rw [n91, hwsn]; simp) (st_swap01 h92)⟩
end
end Go.Proofs.YtbolgpjcmchfoaaGreat
