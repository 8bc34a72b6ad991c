/- Contracts of the manager: one begins, opens, writes, ends. -/
import Derived.Test.YtbolgpjcmchfoaaGreatCk
namespace Go.Proofs.YtbolgpjcmchfoaaGreat
open Go Go.Vc Go.Sl Go.Mo
theorem put_same {α : Type} {l : List (Int × α)} {k : Int} {v : α} (h : lkp l k = some v) : put l k v = l := by
  induction l with
  | nil => cases h
  | cons p r ih =>
    obtain ⟨i, x⟩ := p
    simp only [lkp] at h
    simp only [put]
    by_cases e : k = i
    · rw [if_pos e] at h ⊢; cases h; rfl
    · rw [if_neg e] at h ⊢; rw [ih h]
theorem del_put {α : Type} (l : List (Int × α)) (k : Int) (v : α) : del (put l k v) k = del l k := by
  induction l with
  | nil => simp [put, del]
  | cons p r ih =>
    obtain ⟨i, x⟩ := p
    simp only [put]
    by_cases e : k = i
    · rw [if_pos e]; simp [del, e]
    · rw [if_neg e]; simp only [del, if_neg e, ih]
def ptrs (xs : Prs) : List (Int × Value) := on2 (fun x : Option Addr × Trn => .pointer x.1) xs
/-- The manager without one transaction. -/
def mgrH (p mp bk : Option Addr) (r : Nat) (qs : SV) (xs : Prs) (M : Mgr) (i : Int) : HP :=
  objA p (mcells mp bk r qs M) * (xmapA mp M.m * (bookA bk M.book * (mapA r (ptrs xs) * (Sl.all (del xs i) (fun x => trA mp x.2.1 x.2.2) * ownS 1 qs (M.queue.map intv)))))
theorem mgr_focus {p mp bk tp : Option Addr} {r : Nat} {qs : SV} {xs : Prs} {M : Mgr} {i : Int} {T : Trn} (h : lkp xs i = some (tp, T)) : mgrO p mp bk r qs xs M = trA mp tp T * mgrH p mp bk r qs xs M i := by
  unfold mgrO mgrH ptrs
  rw [all_take h]
  ac_rfl
theorem mgr_back {p mp bk tp : Option Addr} {r : Nat} {qs : SV} {xs : Prs} {M : Mgr} {i : Int} {T T' : Trn} (h : lkp xs i = some (tp, T)) : mgrO p mp bk r qs (put xs i (tp, T')) M = trA mp tp T' * mgrH p mp bk r qs xs M i := by
  have e : on2 (fun x : Option Addr × Trn => Value.pointer x.1) (put xs i (tp, T')) = ptrs xs := by
    rw [← put_on2 (fun x : Option Addr × Trn => Value.pointer x.1)]
    exact put_same (by rw [lkp_on2, h]; rfl)
  unfold mgrO mgrH
  rw [e, all_put]
  ac_rfl
theorem mgr_ptr {p mp bk : Option Addr} {r : Nat} {qs : SV} {xs : Prs} {M : Mgr} {R : HP} {w : World} (h : Sat (mgrO p mp bk r qs xs M * R) w) : ∃ a b c, p = some ⟨a, 0, none⟩ ∧ mp = some ⟨b, 0, none⟩ ∧ bk = some ⟨c, 0, none⟩ := by
  unfold mgrO at h
  obtain ⟨a, ta, rfl, _⟩ := objA_open (h.eq (mul_assoc' _ _ _))
  obtain ⟨b, rfl⟩ := xmap_ptr (M := M.m) (R := objA (some ⟨a, 0, none⟩) (mcells mp bk r qs M) * (bookA bk M.book * (mapA r (on2 (fun x => .pointer x.1) xs) * (Sl.all xs (fun x => trA mp x.2.1 x.2.2) * (ownS 1 qs (M.queue.map intv) * R))))) (h.eq (by ac_rfl))
  obtain ⟨c, rfl⟩ := book_ptr (B := M.book) (R := objA (some ⟨a, 0, none⟩) (mcells (some ⟨b, 0, none⟩) bk r qs M) * (xmapA (some ⟨b, 0, none⟩) M.m * (mapA r (on2 (fun x => .pointer x.1) xs) * (Sl.all xs (fun x => trA (some ⟨b, 0, none⟩) x.2.1 x.2.2) * (ownS 1 qs (M.queue.map intv) * R))))) (h.eq (by ac_rfl))
  exact ⟨a, b, c, rfl, rfl, rfl⟩
theorem mgone_none {w : World} {K : Bool → World → Prop} (hk : K true w) : c_txn_Manager_gone none w K := txn_Manager_gone_go (by simpa [f_txn_Manager_gone, bsplit] using hk)
theorem mgone_c {a b : Nat} {bk : Option Addr} {r : Nat} {qs : SV} {M : Mgr} {R : HP} {w : World} {K : Bool → World → Prop} (h : Sat (objA (some ⟨a, 0, none⟩) (mcells (some ⟨b, 0, none⟩) bk r qs M) * R) w) (hk : K false w) : c_txn_Manager_gone (some ⟨a, 0, none⟩) w K := by
  refine txn_Manager_gone_go (bsplit_iff.2 ⟨fun e => (by cases e), fun _ => ?_⟩)
  rw [onP_some]
  exact ⟨some ⟨b, 0, none⟩, (objA_cells h).1 0, hk⟩
theorem open_c {p mp bk : Option Addr} {r : Nat} {qs : SV} {xs : Prs} {M : Mgr} {i : Int} {R : HP} {w : World} {K : Option Addr → World → Prop} (h : Sat (mgrO p mp bk r qs xs M * R) w) (hx : on2 Prod.snd xs = M.all)
    (hyes : ∀ a T, lkp xs i = some (some ⟨a, 0, none⟩, T) → M.opn i = some T → T.state = 1 → K (some ⟨a, 0, none⟩) w) (hno : M.opn i = none → K none w) : c_txn_Manager_open p i w K := by
  obtain ⟨a, b, c, rfl, rfl, rfl⟩ := mgr_ptr h
  have h1 : Sat (objA (some ⟨a, 0, none⟩) (mcells (some ⟨b, 0, none⟩) (some ⟨c, 0, none⟩) r qs M) * (mapA r (ptrs xs) * (Sl.all xs (fun x => trA (some ⟨b, 0, none⟩) x.2.1 x.2.2) * (xmapA (some ⟨b, 0, none⟩) M.m * (bookA (some ⟨c, 0, none⟩) M.book * (ownS 1 qs (M.queue.map intv) * R)))))) w := h.eq (by unfold mgrO ptrs; ac_rfl)
  refine txn_Manager_open_go (mgone_c h1 ?_)
  refine bsplit_iff.2 ⟨fun e => (by cases e), fun _ => ?_⟩
  rw [onP_some, add_mk]
  refine ⟨some r, (objA_cells h1).1 2, rfl, ?_⟩
  rw [onM_some]
  obtain ⟨es, hcl, hf, _⟩ := mapA_get h1.right
  have hop : M.opn i = match (lkp xs i).map Prod.snd with | some T => if T.state = 1 then some T else none | none => none := by unfold Mgr.opn; rw [← hx, lkp_on2]; rfl
  have hfe : findE es i = (lkp xs i).map fun x => .pointer x.1 := by rw [hf]; unfold ptrs; rw [lkp_on2]
  cases e : lkp xs i with
  | none =>
    refine ⟨es, hcl, none, by rw [hfe, e]; rfl, ?_⟩
    rw [hfe, e]
    exact hno (by rw [hop, e]; rfl)
  | some x =>
    obtain ⟨tp, T⟩ := x
    rw [all_take e] at h1
    obtain ⟨bp, vp, h2⟩ := trA_open (h1.eq (by ac_rfl : _ = trA (some ⟨b, 0, none⟩) tp T * (objA (some ⟨a, 0, none⟩) (mcells (some ⟨b, 0, none⟩) (some ⟨c, 0, none⟩) r qs M) * (mapA r (ptrs xs) * (Sl.all (del xs i) (fun x => trA (some ⟨b, 0, none⟩) x.2.1 x.2.2) * (xmapA (some ⟨b, 0, none⟩) M.m * (bookA (some ⟨c, 0, none⟩) M.book * (ownS 1 qs (M.queue.map intv) * R))))))))
    obtain ⟨d, t, rfl, _⟩ := objA_open h2
    refine ⟨es, hcl, some ⟨d, 0, none⟩, by rw [hfe, e]; rfl, ?_⟩
    rw [hfe, e]
    refine bsplit_iff.2 ⟨fun e => (by cases e), fun _ => ?_⟩
    rw [onP_some]
    refine ⟨T.state, (objA_cells h2).1 0, bsplit_iff.2 ⟨fun hs => ?_, fun hs => ?_⟩⟩
    · exact hno (by rw [hop, e]; simp only [Option.map_some]; rw [if_neg (by simpa using hs)])
    · have hs' : T.state = 1 := by simpa using hs
      exact hyes d T e (by rw [hop, e]; simp only [Option.map_some]; rw [if_pos hs']) hs'
theorem mgr_new {n last : Int} {R : HP} {w : World} {K : Option Addr × Int → World → Prop} (h : Sat R w) (hn : 1 ≤ n ∧ n ≤ 1048576) (hl : 0 ≤ last ∧ last ≤ 1099511627776) (hk : ∀ a w', Sat (mgrA (some ⟨a, 0, none⟩) (Mgr.new n last) * R) w' → K (some ⟨a, 0, none⟩, 0) w') : c_txn_New n last w K := by
  refine txn_New_go (xmap_new h hn fun mp w2 h2 => ?_)
  refine bsplit_iff.2 ⟨fun e => (by cases e), fun _ => bsplit_decide.2 ⟨fun e => by omega, fun _ => bsplit_decide.2 ⟨fun e => by omega, fun _ => book_new h2 fun bk w4 h4 => ?_⟩⟩⟩
  rw [withW_iff, withW_iff]
  have h5 : Sat (mapA w4.heap.size [] * (bookA bk ⟨16, 0, []⟩ * (xmapA mp ⟨n, [], 0⟩ * R))) (w4.alloc (.map #[] 0)) := mapA_new h4
  have h6 := objA_new (t := 106) (vs := mcells mp bk w4.heap.size ⟨none, 0, 0⟩ (Mgr.new n last)) h5
  refine hk _ _ (mgrA_close (xs := []) (mp := mp) (bk := bk) (r := w4.heap.size) (qs := ⟨none, 0, 0⟩) ?_ rfl)
  have h7 : Sat (ownS 1 ⟨none, 0, 0⟩ [] * _) _ := ownS_nil (s := ⟨none, 0, 0⟩) (sz := 1) h6 rfl rfl
  refine h7.eq ?_
  unfold mgrO Mgr.new
  simp only [on2, List.map_nil, Sl.all, one_mul']
  ac_rfl
theorem mgr_write {p : Option Addr} {M : Mgr} {i : Int} {s : SV} {l : List Put} {R : HP} {w : World} {K : Int → World → Prop} (h : Sat (mgrA p M * R) w) (hl : ∀ w', Sat R w' → putsOn (hp w') s l) (hn : l.length ≤ 2 ^ 40) (hb : ∀ T, M.opn i = some T → T.buf.data.length ≤ 2 ^ 40)
    (hk : ∀ w', Sat (mgrA p (M.write i l).1 * R) w' → K (M.write i l).2 w') : c_txn_Manager_Write p i s w K := by
  obtain ⟨mp, bk, r, qs, xs, hx, h1⟩ := mgrA_open h
  refine txn_Manager_Write_go (open_c h1 hx (fun d T hlk hop hst => ?_) fun hop => ?_)
  · have hw : M.write i l = ({ M with all := put M.all i { T with buf := (T.buf.write l).1 } }, (T.buf.write l).2) := by unfold Mgr.write; rw [hop]
    rw [hw] at hk
    refine bsplit_iff.2 ⟨fun e => (by cases e), fun _ => ?_⟩
    rw [onP_some, add_mk]
    rw [mgr_focus hlk] at h1
    obtain ⟨bp, vp, h2⟩ := trA_open (h1.eq (mul_assoc' _ _ _))
    refine ⟨bp, (objA_cells h2).1 4, ?_⟩
    refine buf_write (h2.eq (by ac_rfl : _ = bufA bp T.buf * ((objA (some ⟨d, 0, none⟩) [.int .i64 T.state, .int .i64 T.time, .int .i64 T.code, .int .i64 T.at_, .pointer bp, .pointer vp] * (viewA vp mp bp T.view * mgrH p mp bk r qs xs M i)) * R))) (fun w' hw' => hl w' hw'.right) hn (hb T hop) fun w' h' => hk _ ?_
    refine mgrA_close (M := { M with all := put M.all i { T with buf := (T.buf.write l).1 } }) (mp := mp) (bk := bk) (r := r) (qs := qs) (xs := put xs i (some ⟨d, 0, none⟩, { T with buf := (T.buf.write l).1 })) ?_ ?_
    · rw [mgr_back hlk]
      have h3 : Sat (objA (some ⟨d, 0, none⟩) [.int .i64 T.state, .int .i64 T.time, .int .i64 T.code, .int .i64 T.at_, .pointer bp, .pointer vp] * (bufA bp (T.buf.write l).1 * (viewA vp mp bp T.view * (mgrH p mp bk r qs xs M i * R)))) w' := h'.eq (by ac_rfl)
      have h4 := trA_close (T := { T with buf := (T.buf.write l).1 }) h3
      exact h4.eq (by unfold mgrH mcells; ac_rfl)
    · rw [← put_on2, hx]
  · have hw : M.write i l = (M, 5) := by unfold Mgr.write; rw [hop]
    rw [hw] at hk
    exact hk _ h
end Go.Proofs.YtbolgpjcmchfoaaGreat
