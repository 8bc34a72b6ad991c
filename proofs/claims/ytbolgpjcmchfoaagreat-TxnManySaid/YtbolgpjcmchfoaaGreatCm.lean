/- Contracts of the manager: one begins, one ends; what became of it. -/
import Derived.Test.YtbolgpjcmchfoaaGreatCl
namespace Go.Proofs.YtbolgpjcmchfoaaGreat
open Go Go.Vc Go.Sl Go.Mo
theorem objA_only {p : Option Addr} {vs : List Value} {R : HP} {w : World} (h : Sat (objA p vs * R) w) : Sat (objA p vs * 1) w := h.left.eq (mul_one' _).symm
theorem mgr_begin {p : Option Addr} {M : Mgr} {R : HP} {w : World} {K : Int × Int → World → Prop} (h : Sat (mgrA p M * R) w) (hbl : 1 ≤ M.m.blocks ∧ M.m.blocks ≤ 1048576) (okb : BookOk M.book) (hl : 0 ≤ M.book.last ∧ M.book.last ≤ 2 ^ 40)
    (hk : ∀ w', Sat (mgrA p M.begin.1 * R) w' → K M.begin.2 w') : c_txn_Manager_Begin p w K := by
  obtain ⟨mp, bk, r, qs, xs, hx, h1⟩ := mgrA_open h
  obtain ⟨a, b, c, rfl, rfl, rfl⟩ := mgr_ptr h1
  have h2 : Sat (objA (some ⟨a, 0, none⟩) (mcells (some ⟨b, 0, none⟩) (some ⟨c, 0, none⟩) r qs M) * (bookA (some ⟨c, 0, none⟩) M.book * (xmapA (some ⟨b, 0, none⟩) M.m * (mapA r (ptrs xs) * (Sl.all xs (fun x => trA (some ⟨b, 0, none⟩) x.2.1 x.2.2) * (ownS 1 qs (M.queue.map intv) * R)))))) w := h1.eq (by unfold mgrO ptrs; ac_rfl)
  refine txn_Manager_Begin_go (mgone_c h2 (bsplit_iff.2 ⟨fun e => (by cases e), fun _ => ?_⟩))
  rw [withW_iff]
  have h3 := h2.drew
  obtain ⟨S, hS⟩ : ∃ S : World → Prop, S = fun w' => Sat (objA (some ⟨a, 0, none⟩) (mcells (some ⟨b, 0, none⟩) (some ⟨c, 0, none⟩) r qs M) * 1) w' := ⟨_, rfl⟩
  have toS : ∀ (X : HP) w', Sat (objA (some ⟨a, 0, none⟩) (mcells (some ⟨b, 0, none⟩) (some ⟨c, 0, none⟩) r qs M) * X) w' → S w' := fun X w' hw => by rw [hS]; exact objA_only hw
  have rd : ∀ w' i, S w' → w'.cell? ⟨a, i, none⟩ = (mcells (some ⟨b, 0, none⟩) (some ⟨c, 0, none⟩) r qs M)[i]? := fun w' i hw => by rw [hS] at hw; exact (objA_cells hw).1 i
  refine ⟨S, toS _ _ h3, ?_⟩
  simp only [onP_some, add_mk, Nat.zero_add]
  refine ⟨some ⟨c, 0, none⟩, fun w' hw => rd w' 1 hw, M.last, fun w' hw => rd w' 7 hw, ?_⟩
  refine book_open (h3.eq (by ac_rfl : _ = bookA (some ⟨c, 0, none⟩) M.book * (objA (some ⟨a, 0, none⟩) (mcells (some ⟨b, 0, none⟩) (some ⟨c, 0, none⟩) r qs M) * (xmapA (some ⟨b, 0, none⟩) M.m * (mapA r (ptrs xs) * (Sl.all xs (fun x => trA (some ⟨b, 0, none⟩) x.2.1 x.2.2) * (ownS 1 qs (M.queue.map intv) * R))))))) okb hl fun w12 h12 => ?_
  have h12' : Sat (objA (some ⟨a, 0, none⟩) (mcells (some ⟨b, 0, none⟩) (some ⟨c, 0, none⟩) r qs M) * (bookA (some ⟨c, 0, none⟩) (M.book.open M.last).1 * (xmapA (some ⟨b, 0, none⟩) M.m * (mapA r (ptrs xs) * (Sl.all xs (fun x => trA (some ⟨b, 0, none⟩) x.2.1 x.2.2) * (ownS 1 qs (M.queue.map intv) * R)))))) w12 := h12.eq (by ac_rfl)
  refine ⟨toS _ _ h12', bsplit_iff.2 ⟨fun he => ?_, fun he => ?_⟩⟩
  · have he' : ¬ (M.book.open M.last).2.2 = 0 := by simpa using he
    have hb : M.begin = (M, (0, (M.book.open M.last).2.2)) := by unfold Mgr.begin; rw [if_neg he']
    have hbo : (M.book.open M.last).1 = M.book := by
      revert he'
      unfold Book.open
      split
      · intro _; rfl
      · split
        · intro _; rfl
        · intro h; exact absurd rfl h
    rw [hb] at hk
    rw [hbo] at h12'
    exact hk _ (mgrA_close (h12'.eq (by unfold mgrO ptrs; ac_rfl)) hx)
  have he' : (M.book.open M.last).2.2 = 0 := by simpa using he
  have hb : M.begin = ({ M with book := (M.book.open M.last).1, all := put M.all (M.book.open M.last).2.1 (freshT M) }, ((M.book.open M.last).2.1, 0)) := by unfold Mgr.begin; rw [if_pos he']
  rw [hb] at hk
  refine ⟨some ⟨b, 0, none⟩, rd _ 0 (toS _ _ h12'), ?_⟩
  obtain ⟨r', hxm⟩ := xmapA_open (h12'.eq (by ac_rfl : _ = xmapA (some ⟨b, 0, none⟩) M.m * (objA (some ⟨a, 0, none⟩) (mcells (some ⟨b, 0, none⟩) (some ⟨c, 0, none⟩) r qs M) * (bookA (some ⟨c, 0, none⟩) (M.book.open M.last).1 * (mapA r (ptrs xs) * (Sl.all xs (fun x => trA (some ⟨b, 0, none⟩) x.2.1 x.2.2) * (ownS 1 qs (M.queue.map intv) * R)))))))
  refine blocks_some ((objA_cells hxm).1 0) ?_
  refine wbuf_new h12' hbl (by omega) fun bp w18 h18 => ?_
  rw [withW_iff]
  have h19 := h18.drew
  have h19' : Sat (objA (some ⟨a, 0, none⟩) (mcells (some ⟨b, 0, none⟩) (some ⟨c, 0, none⟩) r qs M) * _) w18.drew := h19.eq (mul_comm' _ _ |>.trans (mul_assoc' _ _ _))
  refine ⟨S, toS _ _ h19', some r, fun w' hw => rd w' 2 hw, M.last, fun w' hw => rd w' 7 hw, some ⟨b, 0, none⟩, fun w' hw => rd w' 0 hw, M.last, fun w' hw => rd w' 7 hw, ?_⟩
  obtain ⟨bb, rfl⟩ := buf_ptr h19
  refine view_new h19 fun vp w34 h34 => ?_
  have h34' : Sat (objA (some ⟨a, 0, none⟩) (mcells (some ⟨b, 0, none⟩) (some ⟨c, 0, none⟩) r qs M) * (bufA (some ⟨bb, 0, none⟩) ⟨M.m.blocks, 16, []⟩ * (viewA vp (some ⟨b, 0, none⟩) (some ⟨bb, 0, none⟩) ⟨M.last, ⟨64, []⟩, []⟩ * (bookA (some ⟨c, 0, none⟩) (M.book.open M.last).1 * (xmapA (some ⟨b, 0, none⟩) M.m * (mapA r (ptrs xs) * (Sl.all xs (fun x => trA (some ⟨b, 0, none⟩) x.2.1 x.2.2) * (ownS 1 qs (M.queue.map intv) * R)))))))) w34 := h34.eq (by ac_rfl)
  refine ⟨toS _ _ h34', ?_⟩
  rw [withW_iff]
  have h35 := objA_new (t := 115) (vs := [.int .i64 1, .int .i64 0, .int .i64 0, .int .i64 M.last, .pointer (some ⟨bb, 0, none⟩), .pointer vp]) (h34'.eq (by ac_rfl : _ = bufA (some ⟨bb, 0, none⟩) (freshT M).buf * (viewA vp (some ⟨b, 0, none⟩) (some ⟨bb, 0, none⟩) (freshT M).view * (objA (some ⟨a, 0, none⟩) (mcells (some ⟨b, 0, none⟩) (some ⟨c, 0, none⟩) r qs M) * (bookA (some ⟨c, 0, none⟩) (M.book.open M.last).1 * (xmapA (some ⟨b, 0, none⟩) M.m * (mapA r (ptrs xs) * (Sl.all xs (fun x => trA (some ⟨b, 0, none⟩) x.2.1 x.2.2) * (ownS 1 qs (M.queue.map intv) * R)))))))))
  have h36 := trA_close (T := freshT M) h35
  change Sat _ (w34.alloc (.cells #[.int .i64 1, .int .i64 0, .int .i64 0, .int .i64 M.last, .pointer (some ⟨bb, 0, none⟩), .pointer vp] 115)) at h36
  generalize w34.alloc (.cells #[.int .i64 1, .int .i64 0, .int .i64 0, .int .i64 M.last, .pointer (some ⟨bb, 0, none⟩), .pointer vp] 115) = w35 at h36 ⊢
  generalize w34.heap.size = tb at h36 ⊢
  have h36' : Sat (objA (some ⟨a, 0, none⟩) (mcells (some ⟨b, 0, none⟩) (some ⟨c, 0, none⟩) r qs M) * (trA (some ⟨b, 0, none⟩) (some ⟨tb, 0, none⟩) (freshT M) * (bookA (some ⟨c, 0, none⟩) (M.book.open M.last).1 * (xmapA (some ⟨b, 0, none⟩) M.m * (mapA r (ptrs xs) * (Sl.all xs (fun x => trA (some ⟨b, 0, none⟩) x.2.1 x.2.2) * (ownS 1 qs (M.queue.map intv) * R))))))) w35 := h36.eq (by ac_rfl)
  refine ⟨toS _ _ h36', trivial, ?_⟩
  rw [onM_some]
  obtain ⟨es, cl, hm, _, h37⟩ := mapA_put (h36'.eq (by ac_rfl : _ = mapA r (ptrs xs) * (objA (some ⟨a, 0, none⟩) (mcells (some ⟨b, 0, none⟩) (some ⟨c, 0, none⟩) r qs M) * (trA (some ⟨b, 0, none⟩) (some ⟨tb, 0, none⟩) (freshT M) * (bookA (some ⟨c, 0, none⟩) (M.book.open M.last).1 * (xmapA (some ⟨b, 0, none⟩) M.m * (Sl.all xs (fun x => trA (some ⟨b, 0, none⟩) x.2.1 x.2.2) * (ownS 1 qs (M.queue.map intv) * R)))))))) (M.book.open M.last).2.1 (.pointer (some ⟨tb, 0, none⟩))
  refine ⟨es, cl, hm, gen_w h37 fun w39 h39 => hk _ ?_⟩
  generalize (M.book.open M.last).2.1 = i at h39 ⊢
  refine mgrA_close (M := { M with book := (M.book.open M.last).1, all := put M.all i (freshT M) }) (mp := some ⟨b, 0, none⟩) (bk := some ⟨c, 0, none⟩) (r := r) (qs := qs) (xs := put xs i (some ⟨tb, 0, none⟩, freshT M)) ?_ (by rw [← put_on2, hx])
  have e1 : ptrs (put xs i (some ⟨tb, 0, none⟩, freshT M)) = put (ptrs xs) i (.pointer (some ⟨tb, 0, none⟩)) := by
    unfold ptrs
    rw [← put_on2 (fun x : Option Addr × Trn => Value.pointer x.1) xs i (some ⟨tb, 0, none⟩, freshT M)]
  have h40 : Sat (Sl.all xs (fun x => trA (some ⟨b, 0, none⟩) x.2.1 x.2.2) * (mapA r (put (ptrs xs) i (.pointer (some ⟨tb, 0, none⟩))) * (objA (some ⟨a, 0, none⟩) (mcells (some ⟨b, 0, none⟩) (some ⟨c, 0, none⟩) r qs M) * (trA (some ⟨b, 0, none⟩) (some ⟨tb, 0, none⟩) (freshT M) * (bookA (some ⟨c, 0, none⟩) (M.book.open M.last).1 * (xmapA (some ⟨b, 0, none⟩) M.m * (ownS 1 qs (M.queue.map intv) * R))))))) w39 := h39.eq (by ac_rfl)
  refine (Sat.all_del h40 i).eq ?_
  unfold mgrO
  rw [all_put]
  have e2 : on2 (fun x : Option Addr × Trn => Value.pointer x.1) (put xs i (some ⟨tb, 0, none⟩, freshT M)) = put (ptrs xs) i (.pointer (some ⟨tb, 0, none⟩)) := e1
  rw [e2]
  unfold mcells
  ac_rfl
theorem mgr_end {p mp bk : Option Addr} {r : Nat} {qs : SV} {xs : Prs} {M : Mgr} {i st code : Int} {R : HP} {w : World} {K : Unit → World → Prop} (h : Sat (mgrO p mp bk r qs xs M * R) w) (hx : on2 Prod.snd xs = M.all) {T : Trn} {tp : Option Addr} (hlk : lkp xs i = some (tp, T))
    (hk : ∀ w' xs', on2 Prod.snd xs' = (M.end_ i st code).all → Sat (mgrO p mp bk r qs xs' (M.end_ i st code) * R) w' → K () w') : c_txn_Manager_end p i st code w K := by
  obtain ⟨a, b, c, rfl, rfl, rfl⟩ := mgr_ptr h
  have hall : lkp M.all i = some T := by rw [← hx, lkp_on2, hlk]; rfl
  have hend : M.end_ i st code = { M with all := put M.all i { T with state := st, code := code, time := if st = 4 then 0 else T.time }, book := (M.book.close i).1 } := by unfold Mgr.end_; rw [hall]
  rw [hend] at hk
  rw [mgr_focus hlk] at h
  obtain ⟨bp, vp, h1⟩ := trA_open (h.eq (mul_assoc' _ _ _))
  obtain ⟨d, td, rfl, _⟩ := objA_open h1
  have hc : ∀ (ts : List Value) (w' : World), Sat (objA (some ⟨d, 0, none⟩) ts * (bufA bp T.buf * (viewA vp (some ⟨b, 0, none⟩) bp T.view * (mgrH (some ⟨a, 0, none⟩) (some ⟨b, 0, none⟩) (some ⟨c, 0, none⟩) r qs xs M i * R)))) w' →
      Sat (objA (some ⟨a, 0, none⟩) (mcells (some ⟨b, 0, none⟩) (some ⟨c, 0, none⟩) r qs M) * (mapA r (ptrs xs) * (bookA (some ⟨c, 0, none⟩) M.book * (objA (some ⟨d, 0, none⟩) ts * (bufA bp T.buf * (viewA vp (some ⟨b, 0, none⟩) bp T.view * (xmapA (some ⟨b, 0, none⟩) M.m * (Sl.all (del xs i) (fun x => trA (some ⟨b, 0, none⟩) x.2.1 x.2.2) * (ownS 1 qs (M.queue.map intv) * R))))))))) w' := fun ts w' hw => hw.eq (by unfold mgrH; ac_rfl)
  have fin : ∀ (tm : Int) (w' : World), (tm = if st = 4 then 0 else T.time) → Sat (objA (some ⟨d, 0, none⟩) [.int .i64 st, .int .i64 tm, .int .i64 code, .int .i64 T.at_, .pointer bp, .pointer vp] * (bufA bp T.buf * (viewA vp (some ⟨b, 0, none⟩) bp T.view * (mgrH (some ⟨a, 0, none⟩) (some ⟨b, 0, none⟩) (some ⟨c, 0, none⟩) r qs xs M i * R)))) w' →
      onP (some (⟨a, 0, none⟩ : Addr)) fun p13 => ∃ q14 : Option Addr, (w'.cell? (p13.add 1) = some (.pointer q14)) ∧ (c_horizon_Book_Close q14 i w' fun (_ : Int) w16 => K () w16) := by
    intro tm w' htm hw
    have h2 := hc _ _ hw
    rw [onP_some, add_mk]
    refine ⟨some ⟨c, 0, none⟩, (objA_cells h2).1 1, ?_⟩
    refine book_close (h2.eq (by ac_rfl : _ = bookA (some ⟨c, 0, none⟩) M.book * (objA (some ⟨a, 0, none⟩) (mcells (some ⟨b, 0, none⟩) (some ⟨c, 0, none⟩) r qs M) * (mapA r (ptrs xs) * (objA (some ⟨d, 0, none⟩) [.int .i64 st, .int .i64 tm, .int .i64 code, .int .i64 T.at_, .pointer bp, .pointer vp] * (bufA bp T.buf * (viewA vp (some ⟨b, 0, none⟩) bp T.view * (xmapA (some ⟨b, 0, none⟩) M.m * (Sl.all (del xs i) (fun x => trA (some ⟨b, 0, none⟩) x.2.1 x.2.2) * (ownS 1 qs (M.queue.map intv) * R)))))))))) fun w16 h16 => ?_
    subst htm
    refine hk _ (put xs i (some ⟨d, 0, none⟩, { T with state := st, code := code, time := if st = 4 then 0 else T.time })) (by rw [← put_on2, hx]) ?_
    rw [mgr_back hlk]
    have h17 := trA_close (T := { T with state := st, code := code, time := if st = 4 then 0 else T.time }) (mp := some ⟨b, 0, none⟩) (bp := bp) (vp := vp) (h16.eq (by ac_rfl : _ = objA (some ⟨d, 0, none⟩) [.int .i64 st, .int .i64 (if st = 4 then 0 else T.time), .int .i64 code, .int .i64 T.at_, .pointer bp, .pointer vp] * (bufA bp T.buf * (viewA vp (some ⟨b, 0, none⟩) bp T.view * (bookA (some ⟨c, 0, none⟩) (M.book.close i).1 * (objA (some ⟨a, 0, none⟩) (mcells (some ⟨b, 0, none⟩) (some ⟨c, 0, none⟩) r qs M) * (mapA r (ptrs xs) * (xmapA (some ⟨b, 0, none⟩) M.m * (Sl.all (del xs i) (fun x => trA (some ⟨b, 0, none⟩) x.2.1 x.2.2) * (ownS 1 qs (M.queue.map intv) * R))))))))))
    exact h17.eq (by unfold mgrH mcells; ac_rfl)
  refine txn_Manager_end_go ?_
  unfold f_txn_Manager_end
  have h2 := hc _ _ h1
  rw [onP_some, add_mk]
  refine ⟨some r, (objA_cells h2).1 2, rfl, ?_⟩
  rw [onM_some]
  obtain ⟨es, hcl, hf, _⟩ := mapA_get h2.right
  refine ⟨es, hcl, some ⟨d, 0, none⟩, by rw [hf]; unfold ptrs; rw [lkp_on2, hlk]; rfl, ?_⟩
  rw [onP_some]
  refine objA_store (i := 0) h1 (by simp) fun w8 h8 => ?_
  rw [onP_some, add_mk]
  refine objA_store (i := 2) h8 (by simp) fun w10 h10 => ?_
  simp only [List.set_cons_succ, List.set_cons_zero] at h10
  refine bsplit_decide.2 ⟨fun hs => ?_, fun hs => ?_⟩
  · rw [onP_some, add_mk]
    refine objA_store (i := 1) h10 (by simp) fun w12 h12 => ?_
    exact fin 0 w12 (by rw [if_pos hs]) h12
  · exact fin T.time w10 (by rw [if_neg hs]) h10
theorem mgr_abort {p : Option Addr} {M : Mgr} {i : Int} {R : HP} {w : World} {K : Int → World → Prop} (h : Sat (mgrA p M * R) w) (hk : ∀ w', Sat (mgrA p (M.abort i).1 * R) w' → K (M.abort i).2 w') : c_txn_Manager_Abort p i w K := by
  obtain ⟨mp, bk, r, qs, xs, hx, h1⟩ := mgrA_open h
  refine txn_Manager_Abort_go (open_c h1 hx (fun d T hlk hop hst => ?_) fun hop => ?_)
  · have hw : M.abort i = (M.end_ i 4 0, 0) := by unfold Mgr.abort; rw [hop]
    rw [hw] at hk
    refine bsplit_iff.2 ⟨fun e => (by cases e), fun _ => ?_⟩
    exact mgr_end h1 hx hlk fun w' xs' hx' h' => hk _ (mgrA_close h' hx')
  · have hw : M.abort i = (M, 5) := by unfold Mgr.abort; rw [hop]
    rw [hw] at hk
    exact hk _ h
theorem mgr_result {p : Option Addr} {M : Mgr} {i : Int} {R : HP} {w : World} {K : Int × Int × Int → World → Prop} (h : Sat (mgrA p M * R) w) (hk : ∀ w', Keep w w' → K (M.result i) w') : c_txn_Manager_Result p i w K := by
  obtain ⟨mp, bk, r, qs, xs, hx, h1⟩ := mgrA_open h
  obtain ⟨a, b, c, rfl, rfl, rfl⟩ := mgr_ptr h1
  have h2 : Sat (objA (some ⟨a, 0, none⟩) (mcells (some ⟨b, 0, none⟩) (some ⟨c, 0, none⟩) r qs M) * (mapA r (ptrs xs) * (Sl.all xs (fun x => trA (some ⟨b, 0, none⟩) x.2.1 x.2.2) * (bookA (some ⟨c, 0, none⟩) M.book * (xmapA (some ⟨b, 0, none⟩) M.m * (ownS 1 qs (M.queue.map intv) * R)))))) w := h1.eq (by unfold mgrO ptrs; ac_rfl)
  refine txn_Manager_Result_go (mgone_c h2 (bsplit_iff.2 ⟨fun e => (by cases e), fun _ => ?_⟩))
  rw [onP_some, add_mk]
  refine ⟨some r, (objA_cells h2).1 2, rfl, ?_⟩
  rw [onM_some]
  obtain ⟨es, hcl, hf, _⟩ := mapA_get h2.right
  have hfe : findE es i = (lkp xs i).map fun x => .pointer x.1 := by rw [hf]; unfold ptrs; rw [lkp_on2]
  have hall : lkp M.all i = (lkp xs i).map Prod.snd := by rw [← hx, lkp_on2]
  cases e : lkp xs i with
  | none =>
    refine ⟨es, hcl, none, by rw [hfe, e]; rfl, ?_⟩
    rw [hfe, e]
    have : M.result i = (0, 0, 0) := by unfold Mgr.result; rw [hall, e]; rfl
    rw [this] at hk
    exact hk _ (Keep.refl w)
  | some x =>
    obtain ⟨tp, T⟩ := x
    rw [all_take e] at h2
    obtain ⟨bp, vp, h3⟩ := trA_open (h2.eq (by ac_rfl : _ = trA (some ⟨b, 0, none⟩) tp T * (Sl.all (del xs i) (fun x => trA (some ⟨b, 0, none⟩) x.2.1 x.2.2) * (objA (some ⟨a, 0, none⟩) (mcells (some ⟨b, 0, none⟩) (some ⟨c, 0, none⟩) r qs M) * (mapA r (ptrs xs) * (bookA (some ⟨c, 0, none⟩) M.book * (xmapA (some ⟨b, 0, none⟩) M.m * (ownS 1 qs (M.queue.map intv) * R))))))))
    obtain ⟨d, td, rfl, _⟩ := objA_open h3
    refine ⟨es, hcl, some ⟨d, 0, none⟩, by rw [hfe, e]; rfl, ?_⟩
    rw [hfe, e]
    refine bsplit_iff.2 ⟨fun e => (by cases e), fun _ => ?_⟩
    rw [withW_iff]
    simp only [onP_some, add_mk, Nat.zero_add]
    have h4 := h3.drew
    refine ⟨T.state, (objA_cells h4).1 0, T.time, (objA_cells h4).1 1, T.code, (objA_cells h4).1 2, ?_⟩
    have : M.result i = (T.state, T.time, T.code) := by unfold Mgr.result; rw [hall, e]; rfl
    rw [this] at hk
    exact hk _ (Keep.drew w)
theorem mgr_last {p : Option Addr} {M : Mgr} {R : HP} {w : World} {K : Int → World → Prop} (h : Sat (mgrA p M * R) w) (hk : K M.last w) : c_txn_Manager_Last p w K := by
  obtain ⟨mp, bk, r, qs, xs, hx, h1⟩ := mgrA_open h
  obtain ⟨a, b, c, rfl, rfl, rfl⟩ := mgr_ptr h1
  have h2 : Sat (objA (some ⟨a, 0, none⟩) (mcells (some ⟨b, 0, none⟩) (some ⟨c, 0, none⟩) r qs M) * _) w := h1.eq (mul_assoc' _ _ _)
  refine txn_Manager_Last_go (mgone_c h2 (bsplit_iff.2 ⟨fun e => (by cases e), fun _ => ?_⟩))
  rw [onP_some, add_mk]
  exact ⟨M.last, (objA_cells h2).1 7, hk⟩
theorem mgr_openN {p : Option Addr} {M : Mgr} {R : HP} {w : World} {K : Int → World → Prop} (h : Sat (mgrA p M * R) w) (okb : BookOk M.book) (hk : ∀ w', Keep w w' → K (M.book.times.length : Nat) w') : c_txn_Manager_Open p w K := by
  obtain ⟨mp, bk, r, qs, xs, hx, h1⟩ := mgrA_open h
  obtain ⟨a, b, c, rfl, rfl, rfl⟩ := mgr_ptr h1
  have h2 : Sat (objA (some ⟨a, 0, none⟩) (mcells (some ⟨b, 0, none⟩) (some ⟨c, 0, none⟩) r qs M) * _) w := h1.eq (mul_assoc' _ _ _)
  refine txn_Manager_Open_go (mgone_c h2 (bsplit_iff.2 ⟨fun e => (by cases e), fun _ => ?_⟩))
  rw [onP_some, add_mk]
  refine ⟨some ⟨c, 0, none⟩, (objA_cells h2).1 1, ?_⟩
  exact book_count (h1.eq (by unfold mgrO; ac_rfl : _ = bookA (some ⟨c, 0, none⟩) M.book * (objA (some ⟨a, 0, none⟩) (mcells (some ⟨b, 0, none⟩) (some ⟨c, 0, none⟩) r qs M) * (xmapA (some ⟨b, 0, none⟩) M.m * (mapA r (on2 (fun x => .pointer x.1) xs) * (Sl.all xs (fun x => trA (some ⟨b, 0, none⟩) x.2.1 x.2.2) * (ownS 1 qs (M.queue.map intv) * R)))))) ) okb hk
theorem mgr_queue {p : Option Addr} {M : Mgr} {R : HP} {w : World} {K : Int → World → Prop} (h : Sat (mgrA p M * R) w) (hk : K (M.queue.length : Nat) w) : c_txn_Manager_Queue p w K := by
  obtain ⟨mp, bk, r, qs, xs, hx, h1⟩ := mgrA_open h
  obtain ⟨a, b, c, rfl, rfl, rfl⟩ := mgr_ptr h1
  have h2 : Sat (objA (some ⟨a, 0, none⟩) (mcells (some ⟨b, 0, none⟩) (some ⟨c, 0, none⟩) r qs M) * _) w := h1.eq (mul_assoc' _ _ _)
  refine txn_Manager_Queue_go (mgone_c h2 (bsplit_iff.2 ⟨fun e => (by cases e), fun _ => ?_⟩))
  rw [onP_some, add_mk]
  refine ⟨qs, (objA_cells h2).1 3, ?_⟩
  have : qs.n = M.queue.length := by
    have h3 : Sat (ownS 1 qs (M.queue.map intv) * (objA (some ⟨a, 0, none⟩) (mcells (some ⟨b, 0, none⟩) (some ⟨c, 0, none⟩) r qs M) * (xmapA (some ⟨b, 0, none⟩) M.m * (bookA (some ⟨c, 0, none⟩) M.book * (mapA r (on2 (fun x => .pointer x.1) xs) * (Sl.all xs (fun x => trA (some ⟨b, 0, none⟩) x.2.1 x.2.2) * R)))))) w := h1.eq (by unfold mgrO; ac_rfl)
    have := ownS_length h3
    simp at this; omega
  rw [this]; exact hk
end Go.Proofs.YtbolgpjcmchfoaaGreat
