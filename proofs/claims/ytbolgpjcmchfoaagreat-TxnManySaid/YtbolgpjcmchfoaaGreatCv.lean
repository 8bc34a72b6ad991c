/- Contracts of the manager: reads, loads, what is told of all blocks. -/
import Derived.Test.YtbolgpjcmchfoaaGreatCu
namespace Go.Proofs.YtbolgpjcmchfoaaGreat
open Go Go.Vc Go.Sl Go.Mo
theorem xmap_dump {B : Nat} {p : Option Addr} {M : XMap} {R : HP} {w : World} {K : SV → World → Prop} (h : Sat (xmapA p M * R) w) (ok : XOk B M) (hB : B ≤ 2 ^ 20) (hk : ∀ s w', Sat (putsA s M.dump * whole w) w' → K s w') : c_extmap_Map_Dump p w K := by
  obtain ⟨b, rfl⟩ := xmap_ptr h
  obtain ⟨r, h1⟩ := xmapA_open h
  refine extmap_Map_Dump_go ?_
  unfold f_extmap_Map_Dump
  refine gone_some ((objA_cells h1).1 0) (bsplit_decide.2 ⟨fun h0 => by have := ok.1.1; omega, fun _ => ?_⟩)
  rw [onP_some, add_mk]
  refine ⟨some r, (objA_cells h1).1 1, ?_⟩
  obtain ⟨m, hm, hkeys⟩ := slmapA_map h1.right
  have hlen : m.length = M.vers.length := by have := congrArg List.length hkeys; simpa using this
  have hvl : M.vers.length ≤ 2 ^ 33 := by have := ok.2.1; omega
  refine sorted_V r m 1 w _ hm (fun q hq => ?_) (by rw [hlen]; omega) fun s w6 hn k6 hs => ?_
  · have : q.1 ∈ M.vers.map Prod.fst := hkeys ▸ List.mem_map_of_mem (f := Prod.fst) hq
    obtain ⟨x, hx, e⟩ := List.mem_map.1 this
    have h2 := (ok.2.2 x hx).1
    have := ok.1.2
    rw [← e]; unfold i64ok; omega
  rw [hkeys] at hs
  have h6 := hs _ (sat_whole w)
  have hsn : s.n = M.vers.length := by rw [hn, hlen]
  have hpl : M.dump.length = M.vers.length := by simp [XMap.dump, sortI_length]
  have hkl : (sortI (M.vers.map Prod.fst)).length = M.vers.length := by simp [sortI_length]
  have hmem : ∀ k ∈ sortI (M.vers.map Prod.fst), k ∈ M.vers.map Prod.fst := fun k hk => (sortI_perm _).mem_iff.1 hk
  have hput : M.dump = (sortI (M.vers.map Prod.fst)).map fun k => ⟨k, ((versOf M.vers k).getLastD ⟨0, []⟩).data⟩ := rfl
  generalize sortI (M.vers.map Prod.fst) = ks at *
  generalize M.dump = ps at *
  refine loop_i (fun (x : SV × Int) w' => ∃ i : Nat, x.2 = i ∧ i ≤ ps.length ∧ Sat (putsA x.1 (ps.take i) * (ownS 1 s (ks.map (Value.int .i64)) * whole w)) w') (fun x _ => ps.length - x.2.toNat) ⟨0, rfl, by omega, pairsA_nil h6 rfl rfl⟩ ?_
  rintro ⟨out, x⟩ w8 ⟨i, hx, hi, hw⟩
  simp only at hx; subst hx
  refine bsplit_decide.2 ⟨fun hlt => ?_, fun hge => ?_⟩
  · have hlt' : i < M.vers.length := by simp at hlt; omega
    have hki : i < ks.length := by omega
    have hkm : i < (ks.map (Value.int .i64)).length := by simpa using hki
    have hwo : Sat (ownS 1 s (ks.map (Value.int .i64)) * (putsA out (ps.take i) * whole w)) w8 := hw.eq (by ac_rfl)
    obtain ⟨bk, hbk, hck⟩ := ownS_cell hwo hkm
    have kw : Keep w w8 := Keep.whole hw.right.right
    have h8 := kw.sat h1
    have hck' : w8.cell? ⟨bk, i, none⟩ = some (.int .i64 ks[i]) := by rw [hck i hkm]; simp
    obtain ⟨v, hv⟩ := lkp_key (hmem _ (List.getElem_mem hki))
    have hvo : versOf M.vers ks[i] = v := by unfold versOf; rw [hv]; rfl
    obtain ⟨_, hv0, hvB, hv40⟩ := ok.2.2 _ (lkp_mem hv)
    simp only at hv0 hvB hv40
    have htake : ps.take (i + 1) = ps.take i ++ [⟨ks[i], (v.getLastD ⟨0, []⟩).data⟩] := by
      rw [List.take_succ_eq_append_getElem (by omega)]
      subst hput
      simp [hvo]
    refine ⟨by omega, hlt, onP_i hbk ⟨ks[i], by simpa using hck', ?_⟩⟩
    rw [onP_some, add_mk]
    refine ⟨some r, (objA_cells h8).1 1, rfl, ?_⟩
    rw [onM_some]
    obtain ⟨es, hcl, x19, hx19, hon⟩ := vers_at h8 ks[i]
    rw [hvo] at hon
    have e1 : IntKind.i64.wrap (((x19.n : Nat) : Int) - 1) = ((v.length - 1 : Nat) : Int) := by rw [hon.1, wrap_of (by omega) (by omega)]; omega
    refine ⟨es, hcl, x19, hx19, ?_⟩
    rw [e1]
    refine ⟨by omega, by have := hon.1; omega, ?_⟩
    obtain ⟨ad, d, ha, _, hc2, hd⟩ := hon.2 (v.length - 1) (by omega)
    have hlast : v[v.length - 1]'(by omega) = v.getLastD ⟨0, []⟩ := by
      rw [List.getLastD_eq_getLast?, List.getLast?_eq_getElem?, List.getElem?_eq_getElem (by omega)]; rfl
    rw [hlast] at hd
    have hd40 : (v.getLastD ⟨0, []⟩).data.length = 40 := by rw [← hlast]; exact hv40 _ (List.getElem_mem _)
    refine onP_i ha ⟨d, hc2, ?_⟩
    refine clone_bytes hw hd (by omega) fun s' w9 hs' hw9 => ?_
    rw [withW_iff]
    have hwa := hw9.alloc (.cells #[.int .i64 ks[i], .slice s'.a s'.n s'.c] 33)
    have hc0 := hwa.cell 0
    have hc1 := hwa.cell 1
    have hwb := hwa.right
    generalize w9.heap.size = bn at hc0 hc1 ⊢
    have hpi : i < ps.length := by omega
    refine pairsA_push (x := (⟨ks[i], (v.getLastD ⟨0, []⟩).data⟩ : Put)) (d := s') (num := Put.lba) (A := fun s x => byteRow s x.data) (l := ps.take i) (R := ownS 1 s (ks.map (Value.int .i64)) * whole w) (hwb.eq ?_) ⟨hc0, hc1⟩ (by simp; omega) (by omega) rfl fun s2 w10 hw10 => ?_
    · show byteRow s' (v.getLastD ⟨0, []⟩).data * (putsA out (ps.take i) * (ownS 1 s (ks.map (Value.int .i64)) * whole w)) = putsA out (ps.take i) * (byteRow s' (v.getLastD ⟨0, []⟩).data * (ownS 1 s (ks.map (Value.int .i64)) * whole w))
      ac_rfl
    · have e1 : IntKind.i64.wrap ((i : Int) + 1) = ((i + 1 : Nat) : Int) := by rw [wrap_of (by omega) (by omega)]; omega
      refine ⟨⟨i + 1, e1, by omega, ?_⟩, by simp only [e1]; omega⟩
      rw [htake]
      exact hw10
  · obtain rfl : i = ps.length := by simp at hge; omega
    rw [List.take_length] at hw
    have : Sat (ownS 1 s (ks.map (Value.int .i64)) * (putsA out ps * whole w)) w8 := hw.eq (by ac_rfl)
    exact hk _ _ this.right
theorem mgr_dump {B : Nat} {p : Option Addr} {M : Mgr} {R : HP} {w : World} {K : SV → World → Prop} (h : Sat (mgrA p M * R) w) (ok : XOk B M.m) (hB : B ≤ 2 ^ 20) (hk : ∀ s w', Sat (putsA s M.m.dump * whole w) w' → K s w') : c_txn_Manager_Dump p w K := by
  obtain ⟨mp, bk, r, qs, xs, hx, h1⟩ := mgrA_open h
  obtain ⟨a, b, c, rfl, rfl, rfl⟩ := mgr_ptr h1
  unfold mgrO at h1
  have h2 := h1.eq (mul_assoc' _ _ _)
  refine txn_Manager_Dump_go (mgone_c h2 (bsplit_iff.2 ⟨fun e => (by cases e), fun _ => ?_⟩))
  rw [onP_some]
  refine ⟨_, (objA_cells h2).1 0, xmap_dump (h2.right.eq (mul_assoc' _ _ _)) ok hB fun s w' h' => hk s w' h'⟩
theorem mgr_ro {p : Option Addr} {M : Mgr} {v : Bool} {R : HP} {w : World} {K : Unit → World → Prop} (h : Sat (mgrA p M * R) w) (hk : ∀ w', Sat (mgrA p { M with read := v } * R) w' → K () w') : c_txn_Manager_ReadOnly p v w K := by
  obtain ⟨mp, bk, r, qs, xs, hx, h1⟩ := mgrA_open h
  obtain ⟨a, b, c, rfl, rfl, rfl⟩ := mgr_ptr h1
  unfold mgrO at h1
  have h2 := h1.eq (mul_assoc' _ _ _)
  refine txn_Manager_ReadOnly_go (mgone_c h2 (bsplit_iff.2 ⟨fun _ => ?_, fun e => (by cases e)⟩))
  rw [onP_some, add_mk]
  refine objA_store h2 (by simp [mcells]) fun w' h' => hk w' ?_
  refine mgrA_close (M := { M with read := v }) (mp := some ⟨b, 0, none⟩) (bk := some ⟨c, 0, none⟩) (r := r) (qs := qs) (xs := xs) ?_ hx
  unfold mgrO
  simp only [mcells, Nat.zero_add, List.set_cons_succ, List.set_cons_zero] at h' ⊢
  exact h'.eq (mul_assoc' _ _ _).symm
theorem mgr_load {B : Nat} {p : Option Addr} {M : Mgr} {s : SV} {l : List Put} {R : HP} {w : World} {K : Int → World → Prop} (h : Sat (mgrA p M * R) w) (ok : XOk B M.m) (hB : B ≤ 2 ^ 30) (hl : ∀ w', Sat R w' → putsOn (hp w') s l) (hn : l.length ≤ 2 ^ 20)
    (hk : ∀ w', Sat (mgrA p (M.load l).1 * R) w' → K (M.load l).2 w') : c_txn_Manager_Load p s w K := by
  obtain ⟨mp, bk, r, qs, xs, hx, h1⟩ := mgrA_open h
  obtain ⟨a, b, c, rfl, rfl, rfl⟩ := mgr_ptr h1
  have hsn := (hl w h.right).1
  unfold mgrO at h1
  have h2 := h1.eq (mul_assoc' _ _ _)
  have hc := (objA_cells h2).1
  have hxl : xs.length = M.all.length := by rw [← hx]; simp [on2]
  obtain ⟨es, hcl, _, hel⟩ := mapA_get (h2.right.eq (by ac_rfl : _ = mapA r (on2 (fun x : Option Addr × Trn => .pointer x.1) xs) * (xmapA (some ⟨b, 0, none⟩) M.m * (bookA (some ⟨c, 0, none⟩) M.book * (Sl.all xs (fun x => trA (some ⟨b, 0, none⟩) x.2.1 x.2.2) * (ownS 1 qs (M.queue.map intv) * R))))))
  have hel' : es.length = M.all.length := by rw [hel, ← hxl]; simp [on2]
  refine txn_Manager_Load_go (mgone_c h2 (bsplit_iff.2 ⟨fun e => (by cases e), fun _ => ?_⟩))
  simp only [onP_some, add_mk, Nat.zero_add]
  refine ⟨some r, hc 2, ?_⟩
  rw [onM_some]
  have back : ∀ (w' : World) (X : XMap), Sat (xmapA (some ⟨b, 0, none⟩) X * (objA (some ⟨a, 0, none⟩) (mcells (some ⟨b, 0, none⟩) (some ⟨c, 0, none⟩) r qs M) * (bookA (some ⟨c, 0, none⟩) M.book * (mapA r (on2 (fun x : Option Addr × Trn => .pointer x.1) xs) * (Sl.all xs (fun x => trA (some ⟨b, 0, none⟩) x.2.1 x.2.2) * (ownS 1 qs (M.queue.map intv) * R)))))) w' →
      w'.cell? ⟨a, 0, none⟩ = some (.pointer (some ⟨b, 0, none⟩)) ∧ w'.cell? ⟨a, 6, none⟩ = some (.int .i64 M.base) ∧ Sat (mgrA (some ⟨a, 0, none⟩) { M with m := X } * R) w' := fun w' X h' => by
    have h3 : Sat (objA (some ⟨a, 0, none⟩) (mcells (some ⟨b, 0, none⟩) (some ⟨c, 0, none⟩) r qs M) * (xmapA (some ⟨b, 0, none⟩) X * (bookA (some ⟨c, 0, none⟩) M.book * (mapA r (on2 (fun x : Option Addr × Trn => .pointer x.1) xs) * (Sl.all xs (fun x => trA (some ⟨b, 0, none⟩) x.2.1 x.2.2) * (ownS 1 qs (M.queue.map intv) * R)))))) w' := h'.eq (by ac_rfl)
    refine ⟨(objA_cells h3).1 0, (objA_cells h3).1 6, mgrA_close (M := { M with m := X }) (mp := some ⟨b, 0, none⟩) (bk := some ⟨c, 0, none⟩) (r := r) (qs := qs) (xs := xs) ?_ hx⟩
    unfold mgrO
    exact h3.eq (by unfold mcells; ac_rfl)
  have hap : ¬ 0 < M.all.length → ¬ (M.base = 0 ∧ 0 < l.length) → ¬ l.length = 0 → ∃ S8 : World → Prop, S8 w.drew ∧ ∃ q11 : Option Addr, (∀ w12, S8 w12 → w12.cell? ⟨a, 0, none⟩ = some (.pointer q11)) ∧ ∃ n14 : Int, (∀ w15, S8 w15 → w15.cell? ⟨a, 6, none⟩ = some (.int .i64 n14)) ∧
      c_extmap_Map_Apply q11 n14 s w.drew fun x16 w17 => S8 w17 ∧ K x16 w17 := fun g1 g2 g3 => by
    have hld : M.load l = ({ M with m := (M.m.apply ⟨M.base, l⟩).1 }, (M.m.apply ⟨M.base, l⟩).2) := by unfold Mgr.load; rw [if_neg (by omega), if_neg g3]
    rw [hld] at hk
    refine ⟨fun w' => w'.cell? ⟨a, 0, none⟩ = some (.pointer (some ⟨b, 0, none⟩)) ∧ w'.cell? ⟨a, 6, none⟩ = some (.int .i64 M.base), ⟨hc 0, hc 6⟩, some ⟨b, 0, none⟩, fun _ k => k.1, M.base, fun _ k => k.2, ?_⟩
    have h4 := h2.drew.eq (by ac_rfl : _ = xmapA (some ⟨b, 0, none⟩) M.m * (objA (some ⟨a, 0, none⟩) (mcells (some ⟨b, 0, none⟩) (some ⟨c, 0, none⟩) r qs M) * (bookA (some ⟨c, 0, none⟩) M.book * (mapA r (on2 (fun x : Option Addr × Trn => .pointer x.1) xs) * (Sl.all xs (fun x => trA (some ⟨b, 0, none⟩) x.2.1 x.2.2) * (ownS 1 qs (M.queue.map intv) * R))))))
    refine xmap_apply (t := ⟨M.base, l⟩) h4 ok hB (fun w' hw' => hl w' hw'.right.right.right.right.right) hn fun w' h' => ?_
    obtain ⟨b1, b2, b3⟩ := back w' _ h'
    exact ⟨⟨b1, b2⟩, hk w' b3⟩
  refine ⟨es, hcl, bsplit_decide.2 ⟨fun g1 => ?_, fun g1 => ⟨M.base, hc 6, bsplit_decide.2 ⟨fun g2 => bsplit_decide.2 ⟨fun g3 => ?_, fun g3 => bsplit_decide.2 ⟨fun g4 => ?_, fun g4 => absurd (by omega) g3⟩⟩, fun g2 => bsplit_decide.2 ⟨fun g4 => ?_, fun g4 => ?_⟩⟩⟩⟩⟩
  · have : M.load l = (M, 1) := by unfold Mgr.load; rw [if_pos (.inl (by omega))]
    rw [this] at hk; exact hk w h
  · have : M.load l = (M, 1) := by unfold Mgr.load; rw [if_pos (.inr ⟨g2, by omega⟩)]
    rw [this] at hk; exact hk w h
  · have : M.load l = (M, 0) := by unfold Mgr.load; rw [if_neg (by omega), if_pos (by omega)]
    rw [this] at hk; exact hk w h
  · have : M.load l = (M, 0) := by unfold Mgr.load; rw [if_neg (by omega), if_pos (by omega)]
    rw [this] at hk; exact hk w h
  · exact hap (by omega) (by omega) (by omega)
theorem mgr_read {n : Nat} {p : Option Addr} {M : Mgr} {i : Int} {e : Ext} {R : HP} {w : World} {K : SV × Int → World → Prop} (h : Sat (mgrA p M * R) w) (okM : XOk n M.m) (hn : n ≤ 2 ^ 30)
    (okT : ∀ T, M.opn i = some T → (∀ q ∈ T.buf.data, q.2.length = 40) ∧ SetOk T.view.set ∧ T.view.set.l.length ≤ 2 ^ 29 ∧ T.view.reads.length ≤ 2 ^ 30)
    (hk : ∀ s w', Sat (byteRow s (M.readE i e).2.1 * (mgrA p (M.readE i e).1 * R)) w' → K (s, (M.readE i e).2.2) w') : c_txn_Manager_Read p i e.first e.len w K := by
  refine txn_Manager_Read_go ?_
  unfold f_txn_Manager_Read
  rw [withW_iff]
  have h0 := (h.alloc (.cells #[.int .i64 e.first, .int .i64 e.len] 56)).eq (by ac_rfl : _ = mgrA p M * (pt w.heap.size (.cells #[.int .i64 e.first, .int .i64 e.len] 56) * R))
  generalize w.alloc (.cells #[.int .i64 e.first, .int .i64 e.len] 56) = w1 at h0 ⊢
  generalize w.heap.size = eb at h0 ⊢
  obtain ⟨mp, bk, r, qs, xs, hx, h1⟩ := mgrA_open h0
  refine open_c h1 hx (fun d T hlk hop hst => ?_) fun hop => ?_
  · obtain ⟨t1, t2, t3, t4⟩ := okT T hop
    have hr : M.readE i e = ({ M with all := put M.all i { T with view := (T.view.read M.m T.buf e).1 } }, (T.view.read M.m T.buf e).2) := by unfold Mgr.readE; rw [hop]
    rw [hr] at hk
    refine bsplit_iff.2 ⟨fun e => (by cases e), fun _ => ?_⟩
    rw [mgr_focus hlk] at h1
    obtain ⟨bp, vp, h2⟩ := trA_open (h1.eq (mul_assoc' _ _ _))
    rw [withW_iff]
    have h3 : Sat (viewA vp mp bp T.view * (xmapA mp M.m * (bufA bp T.buf * (objA (some ⟨d, 0, none⟩) [.int .i64 T.state, .int .i64 T.time, .int .i64 T.code, .int .i64 T.at_, .pointer bp, .pointer vp] * (pt eb (.cells #[.int .i64 e.first, .int .i64 e.len] 56) * ((objA p (mcells mp bk r qs M) * (bookA bk M.book * (mapA r (ptrs xs) * (Sl.all (del xs i) (fun x => trA mp x.2.1 x.2.2) * ownS 1 qs (M.queue.map intv))))) * R)))))) w1.drew := h2.drew.eq (by unfold mgrH; ac_rfl)
    have cv : ∀ {A B C : HP} {w' : World}, Sat (A * (B * (C * (objA (some ⟨d, 0, none⟩) [.int .i64 T.state, .int .i64 T.time, .int .i64 T.code, .int .i64 T.at_, .pointer bp, .pointer vp] * (pt eb (.cells #[.int .i64 e.first, .int .i64 e.len] 56) * ((objA p (mcells mp bk r qs M) * (bookA bk M.book * (mapA r (ptrs xs) * (Sl.all (del xs i) (fun x => trA mp x.2.1 x.2.2) * ownS 1 qs (M.queue.map intv))))) * R)))))) w' →
        w'.cell? ⟨d, 5, none⟩ = some (.pointer vp) ∧ w'.cell? ⟨eb, 0, none⟩ = some (.int .i64 e.first) ∧ w'.cell? ⟨eb, 1, none⟩ = some (.int .i64 e.len) := fun hh => ⟨(objA_cells hh.right.right.right).1 5, hh.right.right.right.right.cell 0, hh.right.right.right.right.cell 1⟩
    refine ⟨fun w' => w'.cell? ⟨d, 5, none⟩ = some (.pointer vp) ∧ w'.cell? ⟨eb, 0, none⟩ = some (.int .i64 e.first) ∧ w'.cell? ⟨eb, 1, none⟩ = some (.int .i64 e.len), cv h3, ?_⟩
    rw [onP_some]
    refine ⟨vp, fun w' k => by rw [add_mk]; exact k.1, (e.first, e.len), fun w' k => ⟨k.2.1, by rw [add_mk]; exact k.2.2⟩, ?_⟩
    refine view_read h3 okM hn t1 t2 t3 t4 fun s w' h' => ⟨cv h'.right, hk s w' ?_⟩
    have h4 : Sat (objA (some ⟨d, 0, none⟩) [.int .i64 T.state, .int .i64 T.time, .int .i64 T.code, .int .i64 T.at_, .pointer bp, .pointer vp] * (bufA bp T.buf * (viewA vp mp bp (T.view.read M.m T.buf e).1 * (mgrH p mp bk r qs xs M i * (pt eb (.cells #[.int .i64 e.first, .int .i64 e.len] 56) * (byteRow s (T.view.read M.m T.buf e).2.1 * R)))))) w' := h'.eq (by unfold mgrH; ac_rfl)
    have h5 := trA_close (T := { T with view := (T.view.read M.m T.buf e).1 }) h4
    have h6 : Sat (mgrA p { M with all := put M.all i { T with view := (T.view.read M.m T.buf e).1 } } * (pt eb (.cells #[.int .i64 e.first, .int .i64 e.len] 56) * (byteRow s (T.view.read M.m T.buf e).2.1 * R))) w' := by
      refine mgrA_close (M := { M with all := put M.all i { T with view := (T.view.read M.m T.buf e).1 } }) (mp := mp) (bk := bk) (r := r) (qs := qs) (xs := put xs i (some ⟨d, 0, none⟩, { T with view := (T.view.read M.m T.buf e).1 })) ?_ ?_
      · rw [mgr_back hlk]
        exact h5.eq (by unfold mgrH mcells; ac_rfl)
      · rw [← put_on2, hx]
    exact (h6.eq (by ac_rfl : _ = pt eb (.cells #[.int .i64 e.first, .int .i64 e.len] 56) * (byteRow s (T.view.read M.m T.buf e).2.1 * (mgrA p { M with all := put M.all i { T with view := (T.view.read M.m T.buf e).1 } } * R)))).right
  · have hr : M.readE i e = (M, ([], 5)) := by unfold Mgr.readE; rw [hop]
    rw [hr] at hk
    exact bsplit_iff.2 ⟨fun _ => hk _ _ (ownS_nil (h0.eq (by ac_rfl : _ = pt eb (.cells #[.int .i64 e.first, .int .i64 e.len] 56) * (mgrA p M * R))).right rfl rfl), fun e => (by cases e)⟩
end Go.Proofs.YtbolgpjcmchfoaaGreat
