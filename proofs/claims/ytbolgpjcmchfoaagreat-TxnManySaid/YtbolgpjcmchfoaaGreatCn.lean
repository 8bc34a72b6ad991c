/- Contracts of the manager: what waits, what may be committed. -/
import Derived.Test.YtbolgpjcmchfoaaGreatCm
namespace Go.Proofs.YtbolgpjcmchfoaaGreat
open Go Go.Vc Go.Sl Go.Mo
/-- What a manager's parts must be for its waiting ones to be told. -/
def WaitOk (M : Mgr) : Prop := M.queue.length ≤ 2 ^ 20 ∧ ∀ h ∈ M.queue, ∃ T, lkp M.all h = some T ∧ BufOk T.buf ∧ T.buf.data.length ≤ 2 ^ 20
theorem mgr_part {p mp bk tp : Option Addr} {r : Nat} {qs : SV} {xs : Prs} {M : Mgr} {i : Int} {T : Trn} {R : HP} {w : World} (h : Sat (mgrO p mp bk r qs xs M * R) w) (hlk : lkp xs i = some (tp, T)) :
    ∃ d bp vp, tp = some ⟨d, 0, none⟩ ∧ (∀ j, w.cell? ⟨d, j, none⟩ = [Value.int .i64 T.state, .int .i64 T.time, .int .i64 T.code, .int .i64 T.at_, .pointer bp, .pointer vp][j]?) ∧ Sat (bufA bp T.buf * 1) w ∧ Sat (viewA vp mp bp T.view * 1) w := by
  rw [mgr_focus hlk] at h
  obtain ⟨bp, vp, h1⟩ := trA_open (h.eq (mul_assoc' _ _ _))
  obtain ⟨d, td, rfl, _⟩ := objA_open h1
  exact ⟨d, bp, vp, rfl, (objA_cells h1).1, h1.right.left.eq (mul_one' _).symm, h1.right.right.left.eq (mul_one' _).symm⟩
theorem mgr_cells {p mp bk : Option Addr} {r : Nat} {qs : SV} {xs : Prs} {M : Mgr} {R : HP} {w : World} (h : Sat (mgrO p mp bk r qs xs M * R) w) : ∃ a, p = some ⟨a, 0, none⟩ ∧ (∀ j, w.cell? ⟨a, j, none⟩ = (mcells mp bk r qs M)[j]?) ∧ (∃ es, (∃ cl, mapAt w r .i64 es cl) ∧ ∀ k, findE es k = (lkp xs k).map fun x => Value.pointer x.1) ∧ Sat (ownS 1 qs (M.queue.map intv) * 1) w ∧ Sat (xmapA mp M.m * 1) w := by
  obtain ⟨a, b, c, rfl, rfl, rfl⟩ := mgr_ptr h
  have h2 : Sat (objA (some ⟨a, 0, none⟩) (mcells (some ⟨b, 0, none⟩) (some ⟨c, 0, none⟩) r qs M) * (mapA r (ptrs xs) * (ownS 1 qs (M.queue.map intv) * (xmapA (some ⟨b, 0, none⟩) M.m * (Sl.all xs (fun x => trA (some ⟨b, 0, none⟩) x.2.1 x.2.2) * (bookA (some ⟨c, 0, none⟩) M.book * R)))))) w := h.eq (by unfold mgrO ptrs; ac_rfl)
  obtain ⟨es, hcl, hf, _⟩ := mapA_get h2.right
  exact ⟨a, rfl, (objA_cells h2).1, ⟨es, hcl, fun k => by rw [hf]; unfold ptrs; rw [lkp_on2]⟩, h2.right.right.left.eq (mul_one' _).symm, h2.right.right.right.left.eq (mul_one' _).symm⟩
theorem mapAt_keep {w w' : World} (k : Keep w w') {r : Nat} {es : List En} (h : ∃ cl, mapAt w r .i64 es cl) : ∃ cl, mapAt w' r .i64 es cl := by
  obtain ⟨cl, hm⟩ := h
  exact ⟨cl, keep_heap k hm⟩
theorem waiting_take {M : Mgr} {i : Nat} (hi : i < M.queue.length) {T : Trn} (hT : lkp M.all M.queue[i] = some T) : (M.queue.take (i + 1)).filterMap (fun h => (lkp M.all h).map fun T => (⟨T.time, T.buf.puts⟩ : Tx)) = (M.queue.take i).filterMap (fun h => (lkp M.all h).map fun T => ⟨T.time, T.buf.puts⟩) ++ [⟨T.time, T.buf.puts⟩] := by
  rw [List.take_succ_eq_append_getElem hi, List.filterMap_append]
  simp [hT]
theorem waiting_length {M : Mgr} (ok : WaitOk M) : ∀ i, i ≤ M.queue.length → ((M.queue.take i).filterMap (fun h => (lkp M.all h).map fun T => (⟨T.time, T.buf.puts⟩ : Tx))).length = i
  | 0, _ => by simp
  | i + 1, h => by
    obtain ⟨T, hT, _⟩ := ok.2 _ (List.getElem_mem (show i < M.queue.length by omega))
    rw [waiting_take (by omega) hT, List.length_append, waiting_length ok i (by omega)]; rfl
theorem waiting_len {M : Mgr} (ok : WaitOk M) : M.waiting.length = M.queue.length := by
  have := waiting_length ok M.queue.length (Nat.le_refl _)
  rwa [List.take_length] at this
theorem mgr_waiting {p mp bk : Option Addr} {r : Nat} {qs : SV} {xs : Prs} {M : Mgr} {R : HP} {w : World} {K : SV → World → Prop} (h : Sat (mgrO p mp bk r qs xs M * R) w) (hx : on2 Prod.snd xs = M.all) (ok : WaitOk M) (hk : ∀ s w', Sat (txsA s M.waiting * whole w) w' → K s w') : c_txn_Manager_waiting p w K := by
  obtain ⟨a, rfl, hcell, ⟨es, hcl, hf⟩, hqs, _⟩ := mgr_cells h
  refine txn_Manager_waiting_go ?_
  unfold f_txn_Manager_waiting
  rw [onP_some, add_mk]
  refine ⟨qs, hcell 3, ?_⟩
  have hqn : qs.n = M.queue.length := by have := ownS_length hqs; simp at this; omega
  have hql := ok.1
  have hwl := waiting_len ok
  refine loop_i (fun (x : SV × Int) w' => ∃ i : Nat, x.2 = i ∧ i ≤ M.queue.length ∧ Sat (txsA x.1 ((M.queue.take i).filterMap (fun h => (lkp M.all h).map fun T => ⟨T.time, T.buf.puts⟩)) * whole w) w') (fun x _ => M.queue.length - x.2.toNat) ⟨0, rfl, by omega, pairsA_nil (sat_whole w) rfl rfl⟩ ?_
  rintro ⟨out, x⟩ w4 ⟨i, hxx, hi, hw⟩
  simp only at hxx hw; subst hxx
  dsimp only
  have k4 : Keep w w4 := Keep.whole hw.right
  refine bsplit_decide.2 ⟨fun hlt => ?_, fun hge => ?_⟩
  · have hlt' : i < M.queue.length := by omega
    obtain ⟨b, hb, hbc⟩ := ownS_cell hqs (i := i) (by simpa using hlt')
    obtain ⟨T, hT, hbo, hbl⟩ := ok.2 _ (List.getElem_mem hlt')
    have hlen := waiting_length ok i hi
    have hnext := waiting_take hlt' hT
    have hci : w.cell? ⟨b, i, none⟩ = some (.int .i64 M.queue[i]) := by rw [hbc i (by simpa using hlt')]; simp [intv]
    generalize M.queue[i] = hd at hT hnext hci
    refine ⟨by omega, hlt, onP_i hb ⟨hd, by simpa using keep_cell k4 hci, ?_⟩⟩
    rw [onP_some, add_mk]
    refine ⟨some r, keep_cell k4 (hcell 2), rfl, ?_⟩
    rw [onM_some]
    have hlk : ∃ tp, lkp xs hd = some (tp, T) := by
      rw [← hx, lkp_on2] at hT
      cases e : lkp xs hd with
      | none => rw [e] at hT; cases hT
      | some x => rw [e] at hT; simp only [Option.map_some, Option.some.injEq] at hT; exact ⟨x.1, by rw [← hT]⟩
    obtain ⟨tp, hlk⟩ := hlk
    obtain ⟨d, bp, vp, rfl, htc, hbuf, _⟩ := mgr_part h hlk
    refine ⟨es, mapAt_keep k4 hcl, some ⟨d, 0, none⟩, by rw [hf, hlk]; rfl, ?_⟩
    rw [withW_iff]
    have kd : Keep w w4.drew := k4.trans (Keep.drew _)
    refine ⟨fun w' => Keep w w', kd, ?_⟩
    rw [onP_some, add_mk]
    refine ⟨T.time, fun w' k => keep_cell k (htc 1), ?_⟩
    rw [onP_some, add_mk]
    refine ⟨bp, fun w' k => keep_cell k (htc 4), ?_⟩
    refine buf_puts (kd.sat hbuf) hbo fun s24 w25 h25 => ?_
    have k25 : Keep w4.drew w25 := Keep.whole h25.right
    refine ⟨kd.trans k25, ?_⟩
    rw [withW_iff]
    have h25' : Sat (putsA s24 T.buf.puts * (txsA out _ * whole w)) w25 := Sat.frame h25 hw.drew
    have h26 := h25'.alloc (.cells #[.int .i64 T.time, .slice s24.a s24.n s24.c] 70)
    have hc0 := h26.cell 0
    have hc1 := h26.cell 1
    have h27 := h26.right
    refine ⟨kd.trans (k25.trans (Keep.alloc _ _)), ?_⟩
    generalize w25.heap.size = bn at hc0 hc1 ⊢
    refine pairsA_push (num := Tx.time) (A := fun s x => putsA s x.puts) (x := (⟨T.time, T.buf.puts⟩ : Tx)) (d := s24) (l := (M.queue.take i).filterMap (fun h => (lkp M.all h).map fun T => ⟨T.time, T.buf.puts⟩)) (R := whole w) (h27.eq ?_) ⟨hc0, hc1⟩ (by rw [hlen]; omega) (by omega) rfl fun s' w28 h28 => ?_
    · show putsA s24 T.buf.puts * (txsA out _ * whole w) = txsA out _ * (putsA s24 T.buf.puts * whole w)
      ac_rfl
    · have e1 : IntKind.i64.wrap ((i : Int) + 1) = ((i + 1 : Nat) : Int) := by rw [wrap_of (by omega) (by omega)]; omega
      refine ⟨Keep.whole h28.right, ⟨⟨i + 1, e1, by omega, ?_⟩, by simp only [e1]; omega⟩⟩
      rw [hnext]
      exact h28
  · obtain rfl : i = M.queue.length := by omega
    rw [List.take_length] at hw
    exact hk _ _ hw
/-- What a transaction must be to be asked whether it may be committed. -/
def TrnOk (T : Trn) : Prop := BufOk T.buf ∧ (∀ q ∈ T.buf.data, lbaOk q.1) ∧ T.buf.data.length ≤ 2 ^ 20 ∧ SetOk T.view.set ∧ T.view.set.l.length ≤ 2 ^ 20
theorem puts_length (B : Buf) : B.puts.length = B.data.length := by simp [Buf.puts, sortI_length]
theorem waiting_puts {M : Mgr} (ok : WaitOk M) : ∀ t ∈ M.waiting, t.puts.length ≤ 2 ^ 20 := by
  intro t ht
  unfold Mgr.waiting at ht
  obtain ⟨h, hh, e⟩ := List.mem_filterMap.1 ht
  obtain ⟨T, hT, _, hl⟩ := ok.2 h hh
  rw [hT] at e
  simp only [Option.map_some, Option.some.injEq] at e
  rw [← e]
  simp only [puts_length]; exact hl
theorem viewSet_ok {V : View} (_ : SetOk V.set) (hl : V.set.l.length ≤ 2 ^ 20) : SetOk (viewSet V) := set_add_ok emptySet_ok (by simp; omega)
theorem mgr_may {B : Nat} {p mp bk tp : Option Addr} {r : Nat} {qs : SV} {xs : Prs} {M : Mgr} {i : Int} {T : Trn} {R : HP} {w : World} {K : Int → World → Prop} (h : Sat (mgrO p mp bk r qs xs M * R) w) (hx : on2 Prod.snd xs = M.all) (okM : XOk B M.m) (hB : B ≤ 2 ^ 31) (ok : WaitOk M) (okT : TrnOk T) (hlk : lkp xs i = some (tp, T))
    (hk : ∀ w', Keep w w' → K (M.may T) w') : c_txn_Manager_may p tp w K := by
  obtain ⟨a, rfl, hcell, _, _, hxm⟩ := mgr_cells h
  obtain ⟨d, bp, vp, rfl, htc, hbuf, hview⟩ := mgr_part h hlk
  refine txn_Manager_may_go ?_
  unfold f_txn_Manager_may
  rw [onP_some, add_mk]
  refine ⟨M.read, hcell 9, bsplit_iff.2 ⟨fun hr => ?_, fun hr => ?_⟩⟩
  · have : M.may T = 10 := by unfold Mgr.may; rw [if_pos hr]
    rw [this] at hk; exact hk _ (Keep.refl w)
  rw [withW_iff]
  have hr' : ¬ M.read = true := by simp [hr]
  refine ⟨fun w' => Keep w w', Keep.drew w, ?_⟩
  simp only [onP_some, add_mk, Nat.zero_add]
  refine ⟨mp, fun w' k => keep_cell k (hcell 0), T.at_, fun w' k => keep_cell k (htc 3), vp, fun w' k => keep_cell k (htc 5), bp, fun w' k => keep_cell k (htc 4), ?_⟩
  obtain ⟨hbo, hlb, hbl, hso, hsl⟩ := okT
  refine mgr_waiting h.drew hx ok fun x17 w18 h18 => ?_
  have k18 : Keep w w18 := (Keep.drew w).trans (Keep.whole h18.right)
  refine ⟨k18, view_set (k18.sat hview) (by omega) fun x19 w20 h20 => ?_⟩
  have k20 : Keep w18 w20 := Keep.whole h20.right
  refine ⟨k18.trans k20, buf_set ((k18.trans k20).sat hbuf) hbo hlb hbl fun x21 w22 hok h22 => ?_⟩
  have k22 : Keep w20 w22 := Keep.whole h22.right
  have kk := k18.trans (k20.trans k22)
  refine ⟨kk, ?_⟩
  have hq22 : Sat (txsA x17 M.waiting * 1) w22 := (k20.trans k22).sat (h18.left.eq (mul_one' _).symm)
  refine valid_c (Sr := viewSet T.view) (Ss := bufSet T.buf) (kk.sat hxm) okM hB (k22.sat h20) (viewSet_ok hso hsl) h22 hok (txsA_on hq22.left) ⟨by rw [waiting_len ok]; have := ok.1; omega, fun t ht => by have := waiting_puts ok t ht; omega⟩ fun w24 k24 => ⟨kk.trans k24, ?_⟩
  refine bsplit_iff.2 ⟨fun hv => ?_, fun hv => ?_⟩
  · have hv' : validM M.m M.waiting T.at_ (viewSet T.view) (bufSet T.buf) ≠ 0 := by simpa using hv
    have : M.may T = validM M.m M.waiting T.at_ (viewSet T.view) (bufSet T.buf) := by unfold Mgr.may; rw [if_neg hr', if_pos hv']
    rw [this] at hk; exact hk _ (kk.trans k24)
  · have hv' : ¬ validM M.m M.waiting T.at_ (viewSet T.view) (bufSet T.buf) ≠ 0 := by simpa using hv
    refine ⟨M.given, keep_cell (kk.trans k24) (hcell 8), bsplit_decide.2 ⟨fun hg => ?_, fun hg => ?_⟩⟩
    · have : M.may T = 11 := by unfold Mgr.may; rw [if_neg hr', if_neg hv', if_pos hg]
      rw [this] at hk; exact hk _ (kk.trans k24)
    · have : M.may T = 0 := by unfold Mgr.may; rw [if_neg hr', if_neg hv', if_neg hg]
      rw [this] at hk; exact hk _ (kk.trans k24)
end Go.Proofs.YtbolgpjcmchfoaaGreat
