/- Contracts of the manager: a batch is done. -/
import Derived.Test.YtbolgpjcmchfoaaGreatCp
namespace Go.Proofs.YtbolgpjcmchfoaaGreat
open Go Go.Vc Go.Sl Go.Mo
theorem row_sub {h : Heap} {s : SV} {vs : List Value} {k m : Nat} (hr : rowOn h s vs) (hsp : ∀ ad, s.a = some ad → ad.spot = none) (hn : vs.length = s.n) (hc : s.n ≤ s.c) (hk : k ≤ m) (hm : m ≤ s.n) (c : Nat) : rowOn h ⟨sub? s.a k s.c 1, m - k, c⟩ ((vs.drop k).take (m - k)) := by
  cases ha : s.a with
  | none =>
    have := hr.1 ha
    subst this
    refine ⟨fun _ => by simp, fun ad had i hi => by simp at hi⟩
  | some ad =>
    have hs := hsp ad ha
    obtain ⟨b, o, sp⟩ := ad
    simp only at hs; subst hs
    unfold sub?
    split
    · rename_i e
      have : m - k = 0 := by omega
      rw [this]
      exact ⟨fun _ => by simp, fun ad had i hi => by simp at hi⟩
    · refine ⟨fun e => by simp at e, fun ad had i hi => ?_⟩
      simp only [Option.map_some, Option.some.injEq] at had
      subst had
      have hi' : k + i < vs.length := by simp at hi; omega
      have := hr.2 _ ha (k + i) hi'
      simp only [add_mk, Nat.mul_one] at this ⊢
      rw [Nat.add_assoc]
      simpa using this
theorem all_one_ints (l : List Int) : (l.map intv).all Vc.one = true := by simp [intv, Vc.one]
theorem clone_ints {s : SV} {l : List Int} {R : HP} {w : World} {K : SV → World → Prop} (h : Sat R w) (hl : rowOn (hp w) s (l.map intv)) (hn : s.n = l.length) (hc : l.length ≤ 2 ^ 30) (hk : ∀ s' w', s'.n = l.length → Sat (ownS 1 s' (l.map intv) * R) w' → K s' w') : c_slices_Clone_int_int s w K :=
  slices_Clone_int_int_go (clone_i h hl (by simp [hn]) (all_one_ints l) (by rw [hn]; omega) (by omega) rfl (by omega) fun s' w' e hs => hk s' w' (e.trans hn) hs)
theorem ownS_spot {sz : Nat} {s : SV} {vs : List Value} {R : HP} {w : World} (h : Sat (ownS sz s vs * R) w) (h0 : 0 < s.c) : ∃ b, s.a = some ⟨b, 0, none⟩ := by
  rcases ownS_cases h with ⟨e, _⟩ | ⟨_, _, b, _, _, e, _⟩
  · omega
  · exact ⟨b, e⟩
theorem ownS_cap {sz : Nat} {s : SV} {vs : List Value} {R : HP} {w : World} (h : Sat (ownS sz s vs * R) w) : s.n ≤ s.c := by
  rcases ownS_cases h with ⟨e, e', _⟩ | ⟨_, e, _⟩
  · omega
  · exact e
theorem end_keys {M : Mgr} {i st code k : Int} (h : (lkp M.all k).isSome) : (lkp (M.end_ i st code).all k).isSome := by
  unfold Mgr.end_
  split
  · exact h
  · simp only [lkp_put]; split
    · rfl
    · exact h
theorem end_rest (M : Mgr) (i st code : Int) : (M.end_ i st code).m = M.m ∧ (M.end_ i st code).queue = M.queue ∧ (M.end_ i st code).out = M.out ∧ (M.end_ i st code).num = M.num := by
  unfold Mgr.end_
  split <;> exact ⟨rfl, rfl, rfl, rfl⟩
theorem done_rest (code : Int) (M : Mgr) (x : Int × Tx) : (doneOne code M x).queue = M.queue ∧ (doneOne code M x).out = M.out ∧ (doneOne code M x).num = M.num := by
  unfold doneOne
  split
  · exact (end_rest _ _ _ _).2
  · exact (end_rest _ _ _ _).2
theorem done_keys {code : Int} {M : Mgr} {x : Int × Tx} {k : Int} (h : (lkp M.all k).isSome) : (lkp (doneOne code M x).all k).isSome := by
  unfold doneOne
  split
  · exact end_keys h
  · exact end_keys h
theorem foldl_done (code : Int) : ∀ (l : List (Int × Tx)) (M : Mgr), ((l.foldl (doneOne code) M).queue = M.queue ∧ (l.foldl (doneOne code) M).out = M.out ∧ (l.foldl (doneOne code) M).num = M.num) ∧ ∀ k, (lkp M.all k).isSome → (lkp (l.foldl (doneOne code) M).all k).isSome
  | [], M => ⟨⟨rfl, rfl, rfl⟩, fun _ h => h⟩
  | x :: r, M => by
    obtain ⟨⟨a, b, c⟩, d⟩ := foldl_done code r (doneOne code M x)
    obtain ⟨a', b', c'⟩ := done_rest code M x
    exact ⟨⟨a.trans a', b.trans b', c.trans c'⟩, fun k h => d k (done_keys h)⟩
theorem done_x {B : Nat} {code : Int} {M : Mgr} {x : Int × Tx} (ok : XOk B M.m) (hn : x.2.puts.length ≤ 2 ^ 13) : XOk (B + 1) (doneOne code M x).m := by
  unfold doneOne
  split
  · rw [(end_rest _ _ _ _).1]
    exact ⟨ok.1, Nat.le_trans ok.2.1 (Nat.mul_le_mul_right _ (Nat.le_succ B)), fun q hq => by obtain ⟨h1, h2, h3, h4⟩ := ok.2.2 q hq; exact ⟨h1, h2, by omega, h4⟩⟩
  · rw [(end_rest _ _ _ _).1]
    exact apply_ok ok hn
theorem foldl_done_x {code : Int} : ∀ (l : List (Int × Tx)) {B : Nat} {M : Mgr}, XOk B M.m → (∀ x ∈ l, x.2.puts.length ≤ 2 ^ 13) → XOk (B + l.length) (l.foldl (doneOne code) M).m
  | [], _, _, ok, _ => ok
  | x :: r, B, M, ok, hn => by
    have := foldl_done_x (code := code) r (done_x (code := code) ok (hn x (by simp))) fun y hy => hn y (by simp [hy])
    simp only [List.foldl_cons, List.length_cons]
    rw [show B + (r.length + 1) = B + 1 + r.length from by omega]
    exact this
theorem sat2 {A B X : HP} {w : World} (h : Sat (A * (B * X)) w) : Sat (A * (B * 1)) w := (h.eq (mul_assoc' A B X).symm).left.eq (by rw [mul_one'])
theorem mgr_done {B : Nat} {p : Option Addr} {M : Mgr} {code : Int} {R : HP} {w : World} {K : Int → World → Prop} (h : Sat (mgrA p M * R) w) (okM : XOk B M.m) (hB : B ≤ 2 ^ 20) (ok : WaitOk M) (hql : M.queue.length ≤ 2 ^ 19) (hpl : ∀ t ∈ M.waiting, t.puts.length ≤ 2 ^ 13) (hout : 0 ≤ M.out ∧ M.out ≤ (M.queue.length : Nat)) (hnum : 0 ≤ M.num ∧ M.num ≤ 2 ^ 41)
    (hk : ∀ w', Sat (mgrA p (M.done code).1 * R) w' → K (M.done code).2 w') : c_txn_Manager_Done p code w K := by
  obtain ⟨mp, bk, r, qs, xs, hx, h1⟩ := mgrA_open h
  obtain ⟨a, b, c, rfl, rfl, rfl⟩ := mgr_ptr h1
  have ho : ∀ {xs : Prs} {M : Mgr} {X : HP} {w : World}, Sat (mgrO (some ⟨a, 0, none⟩) (some ⟨b, 0, none⟩) (some ⟨c, 0, none⟩) r qs xs M * X) w → Sat (objA (some ⟨a, 0, none⟩) (mcells (some ⟨b, 0, none⟩) (some ⟨c, 0, none⟩) r qs M) * 1) w := fun hw => objA_only (hw.eq (mul_assoc' _ _ _))
  have h2 := ho h1
  refine txn_Manager_Done_go (mgone_c h2 (bsplit_iff.2 ⟨fun e => (by cases e), fun _ => ?_⟩))
  rw [onP_some, add_mk]
  refine ⟨M.out, (objA_cells h2).1 4, bsplit_decide.2 ⟨fun h0 => ?_, fun h0 => ?_⟩⟩
  · have hd : M.done code = (M, 14) := by unfold Mgr.done; rw [if_pos h0]
    rw [hd] at hk; exact hk _ h
  obtain ⟨k, hk0⟩ := Int.eq_ofNat_of_zero_le hout.1
  have hkq : k ≤ M.queue.length := by omega
  have hdone : M.done code = ({ ((M.queue.take k).zip (M.waiting.take k)).foldl (doneOne code) M with num := if code = 0 then M.num + 1 else M.num, queue := M.queue.drop k, out := 0 }, 0) := by
    unfold Mgr.done; rw [if_neg h0, hk0]; rfl
  rw [hdone] at hk
  rw [withW_iff]
  refine ⟨fun w' => Sat (objA (some ⟨a, 0, none⟩) (mcells (some ⟨b, 0, none⟩) (some ⟨c, 0, none⟩) r qs M) * 1) w', h2.drew, ?_⟩
  rw [onP_some, add_mk]
  refine ⟨M.out, fun w' hw => (objA_cells hw).1 4, ?_⟩
  have hwl := waiting_len ok
  refine mgr_waiting h1.drew hx ok fun x10 w11 h11 => ?_
  have h11' : Sat (txsA x10 M.waiting * (mgrO (some ⟨a, 0, none⟩) (some ⟨b, 0, none⟩) (some ⟨c, 0, none⟩) r qs xs M * R)) w11 := Sat.frame h11 h1.drew
  obtain ⟨bt, hbt, hcap⟩ := pairsA_spot h11' (by rw [hwl]; omega)
  refine ⟨ho h11'.right, by omega, by omega, by omega, ?_⟩
  rw [withW_iff]
  have h12 := h11'.drew
  refine ⟨fun w' => Sat (objA (some ⟨a, 0, none⟩) (mcells (some ⟨b, 0, none⟩) (some ⟨c, 0, none⟩) r qs M) * 1) w', ho h12.right, ?_⟩
  simp only [onP_some, add_mk, Nat.zero_add]
  obtain ⟨_, _, _, _, hqs, _⟩ := mgr_cells h12.right
  have hqn : qs.n = M.queue.length := by have := ownS_length hqs; simp at this; omega
  have hqc := ownS_cap hqs
  have hqsp : ∀ ad, qs.a = some ad → ad.spot = none := fun ad had => by
    obtain ⟨b', hb'⟩ := ownS_spot hqs (by omega)
    rw [hb'] at had; cases had; rfl
  refine ⟨qs, fun w' hw => (objA_cells hw).1 3, M.out, fun w' hw => (objA_cells hw).1 4, by omega, by omega, by omega, ?_⟩
  have hrow : rowOn (hp w11.drew) ⟨sub? qs.a (0 : Int).toNat qs.c 1, M.out.toNat - (0 : Int).toNat, qs.c - (0 : Int).toNat⟩ ((M.queue.take k).map intv) := by
    obtain ⟨g, hg, ha⟩ := hqs.left
    have := row_sub (k := 0) (m := k) (rowOn_le hg (ownS_on ha)) hqsp (by simp [hqn]) hqc (Nat.zero_le _) (by omega) (qs.c - (0 : Int).toNat)
    rw [List.drop_zero, Nat.sub_zero, ← List.map_take] at this
    rw [hk0]
    simpa using this
  refine clone_ints h12 hrow (by rw [hk0]; simp; omega) (by simp; omega) fun x20 w21 hx20 h21 => ?_
  refine ⟨ho (h21.right.right), ?_⟩
  have hx20n : x20.n = k := by rw [hx20]; simp; omega
  -- the transactions that wait, laid open
  obtain ⟨ts, hts, h22⟩ := pairsA_open (h21.eq (by unfold txsA; ac_rfl : _ = pairsA Tx.time (fun s x => putsA s x.puts) x10 M.waiting * (ownS 1 x20 ((M.queue.take k).map intv) * (mgrO (some ⟨a, 0, none⟩) (some ⟨b, 0, none⟩) (some ⟨c, 0, none⟩) r qs xs M * R))))
  have htl : ts.length = M.queue.length := by rw [← hwl, ← hts]; simp
  have hfl := flat2_length (fun x : SV × Tx => .int .i64 x.2.time) (fun x => slv x.1) ts
  have hzl : ∀ i, i ≤ k → (((M.queue.take k).zip (M.waiting.take k)).take i).length = i := fun i hi => by simp [hwl]; omega
  have hzi : ∀ i (hi : i < k), ((M.queue.take k).zip (M.waiting.take k)).take (i + 1) = ((M.queue.take k).zip (M.waiting.take k)).take i ++ [(M.queue[i]'(by omega), (ts[i]'(by omega)).2)] := fun i hi => by
    rw [List.take_succ_eq_append_getElem (by simp [hwl]; omega)]
    congr 2
    simp only [List.getElem_zip, List.getElem_take, ← hts, List.getElem_map]
  refine loop_i (fun (x : Int) w' => ∃ (i : Nat) (xs' : Prs), x = i ∧ i ≤ k ∧ on2 Prod.snd xs' = ((((M.queue.take k).zip (M.waiting.take k)).take i).foldl (doneOne code) M).all ∧
      Sat (ownS 2 x10 (ts.flatMap fun x => [.int .i64 x.2.time, slv x.1]) * (Sl.all ts (fun x => putsA x.1 x.2.puts) * (ownS 1 x20 ((M.queue.take k).map intv) * (mgrO (some ⟨a, 0, none⟩) (some ⟨b, 0, none⟩) (some ⟨c, 0, none⟩) r qs xs' ((((M.queue.take k).zip (M.waiting.take k)).take i).foldl (doneOne code) M) * R)))) w')
    (fun x _ => k - x.toNat) ⟨0, xs, rfl, by omega, hx, h22⟩ ?_
  rintro x w23 ⟨i, xs', rfl, hi, hx', hw⟩
  have hMi := foldl_done code (((M.queue.take k).zip (M.waiting.take k)).take i) M
  refine bsplit_decide.2 ⟨fun hlt => ?_, fun hge => ?_⟩
  · have hik : i < k := by omega
    have hXi : XOk (B + i) ((((M.queue.take k).zip (M.waiting.take k)).take i).foldl (doneOne code) M).m := by
      have := foldl_done_x (code := code) (((M.queue.take k).zip (M.waiting.take k)).take i) okM fun x hx => by
        have h1 := (List.of_mem_zip (List.mem_of_mem_take (show (x.1, x.2) ∈ _ from hx))).2
        exact hpl _ (List.mem_of_mem_take h1)
      rwa [hzl i (by omega)] at this
    have hnext := hzi i hik
    have hfold : (((M.queue.take k).zip (M.waiting.take k)).take (i + 1)).foldl (doneOne code) M = doneOne code ((((M.queue.take k).zip (M.waiting.take k)).take i).foldl (doneOne code) M) (M.queue[i]'(by omega), (ts[i]'(by omega)).2) := by
      rw [hnext, List.foldl_append]; rfl
    obtain ⟨Mi, hMie⟩ : ∃ Mi, (((M.queue.take k).zip (M.waiting.take k)).take i).foldl (doneOne code) M = Mi := ⟨_, rfl⟩
    rw [hMie] at hx' hw hMi hXi hfold
    have hkey : ∃ tp T, lkp xs' (M.queue[i]'(by omega)) = some (tp, T) := by
      obtain ⟨T, hT, _⟩ := ok.2 (M.queue[i]'(by omega)) (List.getElem_mem (by omega))
      have := hMi.2 _ (by rw [hT]; rfl)
      rw [← hx', lkp_on2] at this
      cases e : lkp xs' (M.queue[i]'(by omega)) with
      | none => rw [e] at this; simp at this
      | some x => exact ⟨x.1, x.2, rfl⟩
    have hh : Sat (ownS 1 x20 ((M.queue.take k).map intv) * (ownS 2 x10 (ts.flatMap fun x => [.int .i64 x.2.time, slv x.1]) * (Sl.all ts (fun x => putsA x.1 x.2.puts) * (mgrO (some ⟨a, 0, none⟩) (some ⟨b, 0, none⟩) (some ⟨c, 0, none⟩) r qs xs' Mi * R)))) w23 := hw.eq (by ac_rfl)
    obtain ⟨bh, hbh, hch⟩ := ownS_cell hh (i := i) (by simp; omega)
    have hci : w23.cell? ⟨bh, i, none⟩ = some (.int .i64 (M.queue[i]'(by omega))) := by rw [hch i (by simp; omega)]; simp [intv]
    have hti : ∃ ti, ts[i]'(by omega) = ti := ⟨_, rfl⟩
    have e1 : IntKind.i64.wrap ((i : Int) + 1) = ((i + 1 : Nat) : Int) := by rw [wrap_of (by omega) (by omega)]; omega
    obtain ⟨hd, hqi⟩ : ∃ hd, M.queue[i]'(by omega) = hd := ⟨_, rfl⟩
    rw [hqi] at hkey hci hfold
    obtain ⟨tp, T, hlk⟩ := hkey
    have fin : ∀ w' xs2, on2 Prod.snd xs2 = (doneOne code Mi (hd, (ts[i]'(by omega)).2)).all → Sat (mgrO (some ⟨a, 0, none⟩) (some ⟨b, 0, none⟩) (some ⟨c, 0, none⟩) r qs xs2 (doneOne code Mi (hd, (ts[i]'(by omega)).2)) * (ownS 2 x10 (ts.flatMap fun x => [.int .i64 x.2.time, slv x.1]) * (Sl.all ts (fun x => putsA x.1 x.2.puts) * (ownS 1 x20 ((M.queue.take k).map intv) * R)))) w' →
        (∃ (i_1 : Nat) (xs' : Prs), IntKind.i64.wrap ((i : Int) + 1) = i_1 ∧ i_1 ≤ k ∧ on2 Prod.snd xs' = ((((M.queue.take k).zip (M.waiting.take k)).take i_1).foldl (doneOne code) M).all ∧
          Sat (ownS 2 x10 (ts.flatMap fun x => [.int .i64 x.2.time, slv x.1]) * (Sl.all ts (fun x => putsA x.1 x.2.puts) * (ownS 1 x20 ((M.queue.take k).map intv) * (mgrO (some ⟨a, 0, none⟩) (some ⟨b, 0, none⟩) (some ⟨c, 0, none⟩) r qs xs' ((((M.queue.take k).zip (M.waiting.take k)).take i_1).foldl (doneOne code) M) * R)))) w') ∧ k - (IntKind.i64.wrap ((i : Int) + 1)).toNat < k - (i : Int).toNat := by
      intro w' xs2 hx2 hw2
      refine ⟨⟨i + 1, xs2, e1, by omega, by rw [hfold]; exact hx2, ?_⟩, by rw [e1]; simp; omega⟩
      rw [hfold]
      exact hw2.eq (by ac_rfl)
    have hwm : Sat (mgrO (some ⟨a, 0, none⟩) (some ⟨b, 0, none⟩) (some ⟨c, 0, none⟩) r qs xs' Mi * (ownS 2 x10 (ts.flatMap fun x => [.int .i64 x.2.time, slv x.1]) * (Sl.all ts (fun x => putsA x.1 x.2.puts) * (ownS 1 x20 ((M.queue.take k).map intv) * R)))) w23 := hw.eq (by ac_rfl)
    refine ⟨by omega, by omega, onP_i hbh ⟨hd, by simpa using hci, bsplit_iff.2 ⟨fun hcd => ?_, fun hcd => ?_⟩⟩⟩
    · have hcd' : code ≠ 0 := by simpa using hcd
      have hdo : doneOne code Mi (hd, (ts[i]'(by omega)).2) = Mi.end_ hd 4 code := by unfold doneOne; rw [if_pos hcd']
      rw [hdo] at fin
      exact mgr_end hwm hx' hlk fun w' xs2 hx2 h' => fin w' xs2 hx2 h'
    · have hcd' : ¬ code ≠ 0 := by simpa using hcd
      have hdo : doneOne code Mi (hd, (ts[i]'(by omega)).2) = ({ Mi with m := (Mi.m.apply (ts[i]'(by omega)).2).1, last := (ts[i]'(by omega)).2.time } : Mgr).end_ hd 3 0 := by unfold doneOne; rw [if_neg hcd']
      rw [hdo] at fin
      rw [withW_iff]
      have hwd := hwm.drew
      have hwd2 : Sat (objA (some ⟨a, 0, none⟩) (mcells (some ⟨b, 0, none⟩) (some ⟨c, 0, none⟩) r qs Mi) * (ownS 2 x10 (ts.flatMap fun x => [.int .i64 x.2.time, slv x.1]) * _)) w23.drew := hwd.eq (by unfold mgrO; rw [mul_assoc', ← mul_assoc' _ (ownS 2 x10 _), mul_comm' _ (ownS 2 x10 _), mul_assoc'])
      have hsub : sub? x10.a (0 : Int).toNat x10.c 2 = x10.a := sub_zero fun ad had => by rw [hbt] at had; cases had; rfl
      obtain ⟨g1, g2⟩ := flat2_get (fun x : SV × Tx => .int .i64 x.2.time) (fun x => slv x.1) ts i (by omega)
      have rdT : ∀ w', Sat (objA (some ⟨a, 0, none⟩) (mcells (some ⟨b, 0, none⟩) (some ⟨c, 0, none⟩) r qs Mi) * (ownS 2 x10 (ts.flatMap fun x => [.int .i64 x.2.time, slv x.1]) * 1)) w' → w'.cell? ⟨bt, i * 2, none⟩ = some (.int .i64 (ts[i]'(by omega)).2.time) ∧ w'.cell? ⟨bt, i * 2 + 1, none⟩ = some (slv (ts[i]'(by omega)).1) := fun w' hw' => by
        obtain ⟨b', hb', hc'⟩ := ownS_cell hw'.right (i := i * 2) (by rw [hfl]; omega)
        rw [hbt] at hb'; cases hb'
        have a1 := hc' (i * 2) (by rw [hfl]; omega)
        have a2 := hc' (i * 2 + 1) (by rw [hfl]; omega)
        rw [← List.getElem?_eq_getElem, g1] at a1
        rw [← List.getElem?_eq_getElem, g2] at a2
        exact ⟨a1, a2⟩
      refine ⟨fun w' => Sat (objA (some ⟨a, 0, none⟩) (mcells (some ⟨b, 0, none⟩) (some ⟨c, 0, none⟩) r qs Mi) * (ownS 2 x10 (ts.flatMap fun x => [.int .i64 x.2.time, slv x.1]) * 1)) w', ?_, some ⟨b, 0, none⟩, fun w' hw' => (objA_cells hw').1 0, by omega, by rw [hk0]; simp; omega, ?_⟩
      · exact sat2 hwd2
      · rw [hsub]
        have hap : Sat (xmapA (some ⟨b, 0, none⟩) Mi.m * (objA (some ⟨a, 0, none⟩) (mcells (some ⟨b, 0, none⟩) (some ⟨c, 0, none⟩) r qs Mi) * (ownS 2 x10 (ts.flatMap fun x => [.int .i64 x.2.time, slv x.1]) * (Sl.all ts (fun x => putsA x.1 x.2.puts) * (bookA (some ⟨c, 0, none⟩) Mi.book * (mapA r (on2 (fun x => .pointer x.1) xs') * (Sl.all xs' (fun x => trA (some ⟨b, 0, none⟩) x.2.1 x.2.2) * (ownS 1 qs (Mi.queue.map intv) * (ownS 1 x20 ((M.queue.take k).map intv) * R))))))))) w23.drew := hwd.eq (by unfold mgrO; ac_rfl)
        have htm : (ts[i]'(by omega)).2 ∈ M.waiting := hts ▸ List.mem_map_of_mem (f := Prod.snd) (List.getElem_mem (by omega))
        have hS := fun w' (hw' : Sat (objA (some ⟨a, 0, none⟩) (mcells (some ⟨b, 0, none⟩) (some ⟨c, 0, none⟩) r qs Mi) * (ownS 2 x10 (ts.flatMap fun x => [.int .i64 x.2.time, slv x.1]) * 1)) w') => rdT w' hw'
        refine onP_i hbt ⟨((ts[i]'(by omega)).2.time, (ts[i]'(by omega)).1), fun w' hw' => ⟨?_, ?_⟩, ?_⟩
        · have := (rdT w' hw').1
          simp only [Int.toNat_natCast, Nat.zero_add, add_mk]; exact this
        · have := (rdT w' hw').2
          simp only [Int.toNat_natCast, Nat.zero_add, add_mk]; exact this
        refine xmap_apply (t := (ts[i]'(by omega)).2) hap hXi (by omega) (fun w' hw' => putsA_on (all_mem (A := fun x : SV × Tx => putsA x.1 x.2.puts) (List.getElem_mem (by omega)) hw'.right.right.left)) (by have := hpl _ htm; omega) fun w38 h38 => ?_
        have h39 : Sat (objA (some ⟨a, 0, none⟩) (mcells (some ⟨b, 0, none⟩) (some ⟨c, 0, none⟩) r qs Mi) * (ownS 2 x10 (ts.flatMap fun x => [.int .i64 x.2.time, slv x.1]) * (xmapA (some ⟨b, 0, none⟩) (Mi.m.apply (ts[i]'(by omega)).2).1 * (Sl.all ts (fun x => putsA x.1 x.2.puts) * (bookA (some ⟨c, 0, none⟩) Mi.book * (mapA r (on2 (fun x => .pointer x.1) xs') * (Sl.all xs' (fun x => trA (some ⟨b, 0, none⟩) x.2.1 x.2.2) * (ownS 1 qs (Mi.queue.map intv) * (ownS 1 x20 ((M.queue.take k).map intv) * R))))))))) w38 := h38.eq (by ac_rfl)
        refine ⟨sat2 h39, by omega, by rw [hk0]; simp; omega, ?_⟩
        refine onP_i hbt ⟨(ts[i]'(by omega)).2.time, ?_, ?_⟩
        · have := (rdT w38 (sat2 h39)).1
          simp only [Int.toNat_natCast, Nat.zero_add, add_mk]; exact this
        refine objA_storeT (i := 7) h39 (by simp [mcells]) fun w42 h42 => ?_
        have hset : (mcells (some ⟨b, 0, none⟩) (some ⟨c, 0, none⟩) r qs Mi).set 7 (.int .i64 (ts[i]'(by omega)).2.time) = mcells (some ⟨b, 0, none⟩) (some ⟨c, 0, none⟩) r qs { Mi with m := (Mi.m.apply (ts[i]'(by omega)).2).1, last := (ts[i]'(by omega)).2.time } := rfl
        rw [hset] at h42
        have h43 : Sat (mgrO (some ⟨a, 0, none⟩) (some ⟨b, 0, none⟩) (some ⟨c, 0, none⟩) r qs xs' { Mi with m := (Mi.m.apply (ts[i]'(by omega)).2).1, last := (ts[i]'(by omega)).2.time } * (ownS 2 x10 (ts.flatMap fun x => [.int .i64 x.2.time, slv x.1]) * (Sl.all ts (fun x => putsA x.1 x.2.puts) * (ownS 1 x20 ((M.queue.take k).map intv) * R)))) w42 := h42.eq (by unfold mgrO; ac_rfl)
        exact mgr_end h43 hx' hlk fun w' xs2 hx2 h' => fin w' xs2 hx2 h'
  · obtain rfl : i = k := by omega
    have hfull : ((M.queue.take i).zip (M.waiting.take i)).take i = (M.queue.take i).zip (M.waiting.take i) := List.take_of_length_le (by simp [hwl]; omega)
    rw [hfull] at hw hMi hx'
    obtain ⟨M1, hM1⟩ : ∃ M1, ((M.queue.take i).zip (M.waiting.take i)).foldl (doneOne code) M = M1 := ⟨_, rfl⟩
    rw [hM1] at hw hMi hx' hk
    obtain ⟨⟨mq, mo, mn⟩, _⟩ := hMi
    have hwm : Sat (mgrO (some ⟨a, 0, none⟩) (some ⟨b, 0, none⟩) (some ⟨c, 0, none⟩) r qs xs' M1 * (ownS 2 x10 (ts.flatMap fun x => [.int .i64 x.2.time, slv x.1]) * (Sl.all ts (fun x => putsA x.1 x.2.puts) * (ownS 1 x20 ((M.queue.take i).map intv) * R)))) w23 := hw.eq (by ac_rfl)
    have tail : ∀ (w : World) (M2 : Mgr), M2 = { M1 with num := if code = 0 then M.num + 1 else M.num } → Sat (mgrO (some ⟨a, 0, none⟩) (some ⟨b, 0, none⟩) (some ⟨c, 0, none⟩) r qs xs' M2 * (ownS 2 x10 (ts.flatMap fun x => [.int .i64 x.2.time, slv x.1]) * (Sl.all ts (fun x => putsA x.1 x.2.puts) * (ownS 1 x20 ((M.queue.take i).map intv) * R)))) w →
        withW w.drew fun w50 => ∃ S : World → Prop, S w50 ∧ ∃ s52 : SV, (∀ w53, S w53 → w53.cell? (⟨a, 3, none⟩ : Addr) = some (.slice s52.a s52.n s52.c)) ∧ ∃ n55 : Int, (∀ w56, S w56 → w56.cell? (⟨a, 4, none⟩ : Addr) = some (.int .i64 n55)) ∧
          0 ≤ n55 ∧ n55 ≤ ((s52.n : Nat) : Int) ∧ ((s52.n : Nat) : Int) ≤ ((s52.c : Nat) : Int) ∧
          c_slices_Clone_int_int ⟨sub? s52.a n55.toNat s52.c 1, ((s52.n : Nat) : Int).toNat - n55.toNat, s52.c - n55.toNat⟩ w50 fun x57 w58 => S w58 ∧
            ((∃ u, w58.cell? (⟨a, 3, none⟩ : Addr) = some u) ∧ w58.frozen? (⟨a, 3, none⟩ : Addr) = false) ∧ True ∧ withW (w58.setCell (⟨a, 3, none⟩ : Addr) (.slice x57.a x57.n x57.c)) fun w60 =>
              ((∃ u, w60.cell? (⟨a, 4, none⟩ : Addr) = some u) ∧ w60.frozen? (⟨a, 4, none⟩ : Addr) = false) ∧ True ∧ withW (w60.setCell (⟨a, 4, none⟩ : Addr) (.int .i64 0)) fun w62 => K 0 w62 := by
      intro w M2 hM2 hw2
      rw [withW_iff]
      have hwd := hw2.drew
      have q2 : M2.queue = M.queue := by rw [hM2]; exact mq
      have o2 : M2.out = M.out := by rw [hM2]; exact mo
      refine ⟨fun w' => Sat (objA (some ⟨a, 0, none⟩) (mcells (some ⟨b, 0, none⟩) (some ⟨c, 0, none⟩) r qs M2) * 1) w', ho hwd, qs, fun w' hw' => (objA_cells hw').1 3, M2.out, fun w' hw' => (objA_cells hw').1 4, by omega, by omega, by omega, ?_⟩
      obtain ⟨_, _, _, _, hqs2, _⟩ := mgr_cells hwd
      have hrow2 : rowOn (hp w.drew) ⟨sub? qs.a M2.out.toNat qs.c 1, ((qs.n : Nat) : Int).toNat - M2.out.toNat, qs.c - M2.out.toNat⟩ ((M.queue.drop i).map intv) := by
        obtain ⟨g, hg, ha⟩ := hqs2.left
        rw [q2] at ha
        have := row_sub (k := i) (m := qs.n) (rowOn_le hg (ownS_on ha)) hqsp (by simp [hqn]) hqc (by omega) (Nat.le_refl _) (qs.c - i)
        rw [o2, hk0, Int.toNat_natCast, Int.toNat_natCast]
        have e : List.take (qs.n - i) ((M.queue.map intv).drop i) = (M.queue.drop i).map intv := by
          rw [← List.map_drop, List.take_of_length_le (by simp [hqn])]
        rw [e] at this
        exact this
      refine clone_ints hwd hrow2 (by rw [o2, hk0]; simp; omega) (by simp; omega) fun x57 w58 hx57 h58 => ⟨ho h58.right, ?_⟩
      have h59 : Sat (objA (some ⟨a, 0, none⟩) (mcells (some ⟨b, 0, none⟩) (some ⟨c, 0, none⟩) r qs M2) * (ownS 1 x57 ((M.queue.drop i).map intv) * (xmapA (some ⟨b, 0, none⟩) M2.m * (bookA (some ⟨c, 0, none⟩) M2.book * (mapA r (on2 (fun x => .pointer x.1) xs') * (Sl.all xs' (fun x => trA (some ⟨b, 0, none⟩) x.2.1 x.2.2) * (R * (ownS 1 qs (M2.queue.map intv) * (ownS 2 x10 (ts.flatMap fun x => [.int .i64 x.2.time, slv x.1]) * (Sl.all ts (fun x => putsA x.1 x.2.puts) * ownS 1 x20 ((M.queue.take i).map intv))))))))))) w58 := h58.eq (by unfold mgrO; ac_rfl)
      refine objA_storeT (i := 3) h59 (by simp [mcells]) fun w60 h60 => objA_storeT (i := 4) h60 (by simp [mcells]) fun w62 h62 => hk _ ?_
      have hset : ((mcells (some ⟨b, 0, none⟩) (some ⟨c, 0, none⟩) r qs M2).set 3 (.slice x57.a x57.n x57.c)).set 4 (.int .i64 0) = mcells (some ⟨b, 0, none⟩) (some ⟨c, 0, none⟩) r x57 { M2 with queue := M.queue.drop i, out := 0 } := rfl
      rw [hset] at h62
      have hfinal : ({ M1 with num := if code = 0 then M.num + 1 else M.num, queue := M.queue.drop i, out := 0 } : Mgr) = { M2 with queue := M.queue.drop i, out := 0 } := by rw [hM2]
      rw [hfinal]
      have hxf : on2 Prod.snd xs' = M2.all := by rw [hM2]; exact hx'
      refine mgrA_close (M := { M2 with queue := M.queue.drop i, out := 0 }) (mp := some ⟨b, 0, none⟩) (bk := some ⟨c, 0, none⟩) (r := r) (qs := x57) (xs := xs') ?_ hxf
      have h63 : Sat ((ownS 1 qs (M2.queue.map intv) * (ownS 2 x10 (ts.flatMap fun x => [.int .i64 x.2.time, slv x.1]) * (Sl.all ts (fun x => putsA x.1 x.2.puts) * ownS 1 x20 ((M.queue.take i).map intv)))) * (mgrO (some ⟨a, 0, none⟩) (some ⟨b, 0, none⟩) (some ⟨c, 0, none⟩) r x57 xs' { M2 with queue := M.queue.drop i, out := 0 } * R)) w62 := h62.eq (by unfold mgrO; ac_rfl)
      exact h63.right
    refine bsplit_decide.2 ⟨fun hc0 => ?_, fun hc0 => ?_⟩
    · have h24 := hwm.eq (mul_assoc' _ _ _)
      refine ⟨M1.num, (objA_cells h24).1 5, objA_storeT (i := 5) h24 (by simp [mcells]) fun w48 h48 => ?_⟩
      rw [mn, wrap_of (by omega) (by omega)] at h48
      have hset : (mcells (some ⟨b, 0, none⟩) (some ⟨c, 0, none⟩) r qs M1).set 5 (.int .i64 (M.num + 1)) = mcells (some ⟨b, 0, none⟩) (some ⟨c, 0, none⟩) r qs { M1 with num := M.num + 1 } := rfl
      rw [hset] at h48
      exact tail w48 { M1 with num := M.num + 1 } (by rw [if_pos hc0]) (h48.eq (by unfold mgrO; ac_rfl))
    · refine tail w23 M1 (by rw [if_neg hc0, ← mn]) hwm
end Go.Proofs.YtbolgpjcmchfoaaGreat
