/- Contracts of the manager: one is handed in. -/
import Derived.Test.YtbolgpjcmchfoaaGreatCn
namespace Go.Proofs.YtbolgpjcmchfoaaGreat
open Go Go.Vc Go.Sl Go.Mo
theorem lkp_put_self {α : Type} (l : List (Int × α)) (k : Int) (v : α) : lkp (put l k v) k = some v := by rw [lkp_put]; simp
theorem mgr_commit {B : Nat} {p : Option Addr} {M : Mgr} {i : Int} {R : HP} {w : World} {K : Int → World → Prop} (h : Sat (mgrA p M * R) w) (okM : XOk B M.m) (hB : B ≤ 2 ^ 31) (ok : WaitOk M) (okT : ∀ T, M.opn i = some T → TrnOk T) (hg : 0 ≤ M.given ∧ M.given ≤ 2 ^ 41)
    (hk : ∀ w', Sat (mgrA p (M.commit i).1 * R) w' → K (M.commit i).2 w') : c_txn_Manager_Commit p i w K := by
  obtain ⟨mp, bk, r, qs, xs, hx, h1⟩ := mgrA_open h
  refine txn_Manager_Commit_go (open_c h1 hx (fun d T hlk hop hst => ?_) fun hop => ?_)
  rotate_left
  · have hw : M.commit i = (M, 5) := by unfold Mgr.commit; rw [hop]
    rw [hw] at hk
    exact hk _ h
  have oT := okT T hop
  refine bsplit_iff.2 ⟨fun e => (by cases e), fun _ => ?_⟩
  obtain ⟨a, hpa, hcell, _, _, _⟩ := mgr_cells h1
  subst hpa
  have h2 := h1
  rw [mgr_focus hlk] at h2
  obtain ⟨bp, vp, h3⟩ := trA_open (h2.eq (mul_assoc' _ _ _))
  rw [onP_some, add_mk]
  refine ⟨bp, (objA_cells h3).1 4, ?_⟩
  refine buf_len (h3.eq (by ac_rfl : _ = bufA bp T.buf * (objA (some ⟨d, 0, none⟩) [.int .i64 T.state, .int .i64 T.time, .int .i64 T.code, .int .i64 T.at_, .pointer bp, .pointer vp] * (viewA vp mp bp T.view * (mgrH (some ⟨a, 0, none⟩) mp bk r qs xs M i * R))))) oT.1 fun w6 k6 => bsplit_decide.2 ⟨fun h0 => ?_, fun h0 => ?_⟩
  · have hc : M.commit i = (({ M with all := put M.all i { T with time := T.at_ } } : Mgr).end_ i 3 0, 0) := by unfold Mgr.commit; rw [hop]; simp only []; rw [if_pos (by omega)]
    rw [hc] at hk
    have h4 := k6.sat h3
    simp only [onP_some, add_mk]
    refine ⟨T.at_, (objA_cells h4).1 3, objA_storeT (i := 1) h4 (by simp) fun w10 h10 => ?_⟩
    have h11 := trA_close (T := { T with time := T.at_ }) h10
    have h12 : Sat (mgrO (some ⟨a, 0, none⟩) mp bk r qs (put xs i (some ⟨d, 0, none⟩, { T with time := T.at_ })) { M with all := put M.all i { T with time := T.at_ } } * R) w10 := h11.eq (by
      have := mgr_back (p := some ⟨a, 0, none⟩) (mp := mp) (bk := bk) (r := r) (qs := qs) (M := { M with all := put M.all i { T with time := T.at_ } }) (T' := { T with time := T.at_ }) hlk
      rw [this]; unfold mgrH mcells; ac_rfl)
    exact mgr_end h12 (by rw [← put_on2, hx]) (lkp_put_self _ _ _) fun w' xs' hx' h' => hk _ (mgrA_close h' hx')
  have hc0 : ¬ T.buf.data.length = 0 := by omega
  refine mgr_may (k6.sat h1) hx okM hB ok oT hlk fun w14 k14 => bsplit_iff.2 ⟨fun hm => ?_, fun hm => ?_⟩
  · have hm' : M.may T ≠ 0 := by simpa using hm
    have hc : M.commit i = (M.end_ i 4 (M.may T), M.may T) := by unfold Mgr.commit; rw [hop]; simp only []; rw [if_neg hc0, if_pos hm']
    rw [hc] at hk
    exact mgr_end ((k6.trans k14).sat h1) hx hlk fun w' xs' hx' h' => hk _ (mgrA_close h' hx')
  · have hm' : ¬ M.may T ≠ 0 := by simpa using hm
    have hc : M.commit i = ({ M with given := M.given + 1, all := put M.all i { T with state := 2, time := M.given + 1 }, queue := M.queue ++ [i] }, 0) := by unfold Mgr.commit; rw [hop]; simp only []; rw [if_neg hc0, if_neg hm']
    rw [hc] at hk
    have h4 := (k6.trans k14).sat h3
    have h5 : Sat (objA (some ⟨a, 0, none⟩) (mcells mp bk r qs M) * (objA (some ⟨d, 0, none⟩) [.int .i64 T.state, .int .i64 T.time, .int .i64 T.code, .int .i64 T.at_, .pointer bp, .pointer vp] * (ownS 1 qs (M.queue.map intv) * (bufA bp T.buf * (viewA vp mp bp T.view * (xmapA mp M.m * (bookA bk M.book * (mapA r (ptrs xs) * (Sl.all (del xs i) (fun x => trA mp x.2.1 x.2.2) * R))))))))) w14 := h4.eq (by unfold mgrH; ac_rfl)
    simp only [onP_some, add_mk, Nat.zero_add]
    refine ⟨M.given, (objA_cells h5).1 8, objA_storeT (i := 8) h5 (by simp [mcells]) fun w20 h20 => ?_⟩
    rw [wrap_of (by omega) (by omega)] at h20
    have hset : (mcells mp bk r qs M).set 8 (.int .i64 (M.given + 1)) = mcells mp bk r qs { M with given := M.given + 1 } := rfl
    rw [hset] at h20
    refine ⟨M.given + 1, (objA_cells h20).1 8, ?_⟩
    have h21 : Sat (objA (some ⟨d, 0, none⟩) [.int .i64 T.state, .int .i64 T.time, .int .i64 T.code, .int .i64 T.at_, .pointer bp, .pointer vp] * (objA (some ⟨a, 0, none⟩) (mcells mp bk r qs { M with given := M.given + 1 }) * (ownS 1 qs (M.queue.map intv) * (bufA bp T.buf * (viewA vp mp bp T.view * (xmapA mp M.m * (bookA bk M.book * (mapA r (ptrs xs) * (Sl.all (del xs i) (fun x => trA mp x.2.1 x.2.2) * R))))))))) w20 := h20.eq (by ac_rfl)
    refine objA_storeT (i := 0) h21 (by simp) fun w24 h24 => objA_storeT (i := 1) h24 (by simp) fun w26 h26 => ?_
    simp only [List.set_cons_succ, List.set_cons_zero] at h26
    have h27 : Sat (objA (some ⟨a, 0, none⟩) (mcells mp bk r qs { M with given := M.given + 1 }) * (objA (some ⟨d, 0, none⟩) [.int .i64 2, .int .i64 (M.given + 1), .int .i64 T.code, .int .i64 T.at_, .pointer bp, .pointer vp] * (ownS 1 qs (M.queue.map intv) * (bufA bp T.buf * (viewA vp mp bp T.view * (xmapA mp M.m * (bookA bk M.book * (mapA r (ptrs xs) * (Sl.all (del xs i) (fun x => trA mp x.2.1 x.2.2) * R))))))))) w26 := h26.eq (by ac_rfl)
    refine ⟨qs, (objA_cells h27).1 3, ?_⟩
    rw [withW_iff]
    have h28 := h27.alloc (.cells #[.int .i64 i] 3)
    have hcb := h28.cell 0
    have h29 := h28.right
    generalize w26.heap.size = bn at hcb ⊢
    have h30 : Sat (ownS 1 qs (M.queue.map intv) * (objA (some ⟨a, 0, none⟩) (mcells mp bk r qs { M with given := M.given + 1 }) * (objA (some ⟨d, 0, none⟩) [.int .i64 2, .int .i64 (M.given + 1), .int .i64 T.code, .int .i64 T.at_, .pointer bp, .pointer vp] * (bufA bp T.buf * (viewA vp mp bp T.view * (xmapA mp M.m * (bookA bk M.book * (mapA r (ptrs xs) * (Sl.all (del xs i) (fun x => trA mp x.2.1 x.2.2) * R))))))))) (w26.alloc (.cells #[.int .i64 i] 3)) := h29.eq (by ac_rfl)
    have hqn : qs.n = M.queue.length := by have := ownS_length h30; simp at this; omega
    have hql := ok.1
    refine append_own (news := [.int .i64 i]) h30 rfl rfl (fun ad had => ?_) (fun hno => by cases hno) (by rw [hqn]; simp; omega) (by omega) rfl fun s' w' hs' h' => ?_
    · cases had
      exact hcb
    · have h31 : Sat (objA (some ⟨a, 0, none⟩) (mcells mp bk r qs { M with given := M.given + 1 }) * (ownS 1 s' ((M.queue ++ [i]).map intv) * (objA (some ⟨d, 0, none⟩) [.int .i64 2, .int .i64 (M.given + 1), .int .i64 T.code, .int .i64 T.at_, .pointer bp, .pointer vp] * (bufA bp T.buf * (viewA vp mp bp T.view * (xmapA mp M.m * (bookA bk M.book * (mapA r (ptrs xs) * (Sl.all (del xs i) (fun x => trA mp x.2.1 x.2.2) * R))))))))) w' := h'.eq (by rw [List.map_append]; simp only [List.map_cons, List.map_nil, intv]; ac_rfl)
      refine objA_storeT (i := 3) h31 (by simp [mcells]) fun w'' h'' => hk _ ?_
      have hset2 : (mcells mp bk r qs { M with given := M.given + 1 }).set 3 (.slice s'.a s'.n s'.c) = mcells mp bk r s' { M with given := M.given + 1, all := put M.all i { T with state := 2, time := M.given + 1 }, queue := M.queue ++ [i] } := rfl
      rw [hset2] at h''
      refine mgrA_close (M := { M with given := M.given + 1, all := put M.all i { T with state := 2, time := M.given + 1 }, queue := M.queue ++ [i] }) (mp := mp) (bk := bk) (r := r) (qs := s') (xs := put xs i (some ⟨d, 0, none⟩, { T with state := 2, time := M.given + 1 })) ?_ (by rw [← put_on2, hx])
      rw [mgr_back hlk]
      have h32 := trA_close (T := { T with state := 2, time := M.given + 1 }) (mp := mp) (bp := bp) (vp := vp) (h''.eq (by ac_rfl : _ = objA (some ⟨d, 0, none⟩) [.int .i64 2, .int .i64 (M.given + 1), .int .i64 T.code, .int .i64 T.at_, .pointer bp, .pointer vp] * (bufA bp T.buf * (viewA vp mp bp T.view * (objA (some ⟨a, 0, none⟩) (mcells mp bk r s' { M with given := M.given + 1, all := put M.all i { T with state := 2, time := M.given + 1 }, queue := M.queue ++ [i] }) * (ownS 1 s' ((M.queue ++ [i]).map intv) * (xmapA mp M.m * (bookA bk M.book * (mapA r (ptrs xs) * (Sl.all (del xs i) (fun x => trA mp x.2.1 x.2.2) * R))))))))))
      exact h32.eq (by unfold mgrH; ac_rfl)
end Go.Proofs.YtbolgpjcmchfoaaGreat
