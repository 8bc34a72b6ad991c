/- Contracts: the least time that anybody reads; how many versions there are. -/
import Derived.Test.YtbolgpjcmchfoaaGreatCv
namespace Go.Proofs.YtbolgpjcmchfoaaGreat
open Go Go.Vc Go.Sl Go.Mo
theorem foldl_min_le : ∀ (l : List (Int × Int)) (a : Int), (l.foldl (fun a p => min a p.2) a ≤ a ∧ ∀ p ∈ l, l.foldl (fun a p => min a p.2) a ≤ p.2) ∧ (l.foldl (fun a p => min a p.2) a = a ∨ ∃ p ∈ l, l.foldl (fun a p => min a p.2) a = p.2)
  | [], a => by simp
  | q :: r, a => by
    obtain ⟨⟨h1, h2⟩, h3⟩ := foldl_min_le r (min a q.2)
    simp only [List.foldl_cons]
    refine ⟨⟨by omega, fun p hp => ?_⟩, ?_⟩
    · rcases List.mem_cons.1 hp with e | e
      · subst e; omega
      · exact h2 p e
    · rcases h3 with e | ⟨p, hp, e⟩
      · rw [e]
        rcases Int.le_total a q.2 with h | h
        · exact .inl (by omega)
        · exact .inr ⟨q, by simp, by omega⟩
      · exact .inr ⟨p, by simp [hp], e⟩
theorem low_eq {B : Book} {now v : Int} (h1 : v ≤ now) (h2 : ∀ p ∈ B.times, v ≤ p.2) (h3 : v = now ∨ ∃ p ∈ B.times, v = p.2) : B.low now = v := by
  obtain ⟨⟨a, b⟩, c⟩ := foldl_min_le B.times now
  unfold Book.low
  generalize B.times.foldl (fun a p => min a p.2) now = u at a b c
  have x1 : u ≤ v := by
    rcases h3 with e | ⟨p, hp, e⟩
    · omega
    · have := b p hp; omega
  have x2 : v ≤ u := by
    rcases c with e | ⟨p, hp, e⟩
    · omega
    · have := h2 p hp; omega
  omega
theorem en_same {es : List En} (hn : (es.map En.b).Nodup) {f g : En} (hf : f ∈ es) (hg : g ∈ es) (h : f.b = g.b) : f = g := by
  refine Classical.byContradiction fun hne => ?_
  have hp := List.pairwise_map.1 hn
  rcases List.getElem_of_mem hf with ⟨i, hi, rfl⟩
  rcases List.getElem_of_mem hg with ⟨j, hj, rfl⟩
  rcases Nat.lt_trichotomy i j with h' | h' | h'
  · exact List.pairwise_iff_getElem.1 hp i j hi hj h' h
  · subst h'; exact hne rfl
  · exact List.pairwise_iff_getElem.1 hp j i hj hi h' h.symm
theorem book_low {p : Option Addr} {B : Book} {now : Int} {R : HP} {w : World} {K : Int → World → Prop} (h : Sat (bookA p B * R) w) (hk : ∀ w', Keep w w' → K (B.low now) w') : c_horizon_Book_Low p now w K := by
  obtain ⟨b, rfl⟩ := book_ptr h
  obtain ⟨r, h1⟩ := bookA_open h
  refine horizon_Book_Low_go ?_
  unfold f_horizon_Book_Low
  refine bsplit_iff.2 ⟨fun e => (by cases e), fun _ => ?_⟩
  rw [onP_some, add_mk]
  refine ⟨some r, (objA_cells h1).1 2, ?_⟩
  rw [onM_some]
  obtain ⟨es, cl, mok, hkv, h2⟩ := mapA_open h1.right
  have hes : ∀ f ∈ es, ∃ t, (f.k, t) ∈ B.times ∧ f.v = intv t := fun f hf => by
    have : (f.k, f.v) ∈ kvs es := List.mem_map.2 ⟨f, hf, rfl⟩
    rw [hkv] at this
    obtain ⟨x, hx, e⟩ := List.mem_map.1 this
    simp only [Prod.mk.injEq] at e
    exact ⟨x.2, by rw [← e.1]; exact hx, e.2.symm⟩
  have hse : ∀ q ∈ B.times, ∃ f ∈ es, f.k = q.1 ∧ f.v = intv q.2 := fun q hq => by
    have : (q.1, intv q.2) ∈ kvs es := by rw [hkv]; exact List.mem_map.2 ⟨q, hq, rfl⟩
    obtain ⟨f, hf, e⟩ := List.mem_map.1 this
    simp only [Prod.mk.injEq] at e
    exact ⟨f, hf, e.1, e.2⟩
  refine ⟨_, cl, h2.get, ?_⟩
  rw [withW_iff]
  have hit : Sat (iterP w.heap.size r cl #[] * whole w) (w.alloc (.mapIter (some r) cl #[] cl)) := (sat_whole w).alloc _
  generalize w.heap.size = it at hit ⊢
  have hmap : ∀ w', Sat (whole w) w' → mapAt w' r .i64 es cl := fun w' hw => keep_heap (Keep.whole hw) (mapE_at h2)
  refine loop_i (fun (x : Int) w' => ∃ seen, Sat (iterP it r cl seen * whole w) w' ∧ x ≤ now ∧ (x = now ∨ ∃ p ∈ B.times, x = p.2) ∧ ∀ f ∈ es, f.b ∈ seen → ∀ t, f.v = intv t → x ≤ t) (fun _ w' => match w'.heap[it]? with | some (.mapIter _ _ seen _) => left es seen | _ => 0) ⟨#[], hit, Int.le_refl _, .inl rfl, by simp⟩ ?_
  rintro x w4 ⟨seen, hw, hx1, hx2, hseen⟩
  have hleft : (match w4.heap[it]? with | some (.mapIter _ _ seen _) => left es seen | _ => 0) = left es seen := by rw [hw.get]
  rw [hleft]
  refine iter_step (enc := fun x : Int => .int .i64 x) hw hmap mok (fun f hf => ?_) (fun f hf hfs t ht w' hw' => ?_) (fun hall w' hw' => ?_)
  · obtain ⟨t, _, hv⟩ := hes f hf
    exact ⟨t, hv⟩
  · rw [withI_iff]
    have hnew : (match w'.heap[it]? with | some (.mapIter _ _ seen _) => left es seen | _ => 0) < left es seen := by rw [hw'.get]; exact left_lt hf hfs
    obtain ⟨t', hm, hv⟩ := hes f hf
    obtain rfl : t' = t := by rw [ht] at hv; simpa [intv] using hv.symm
    refine ⟨⟨seen.push f.b, hw', by split <;> omega, ?_, fun g hg hgs u hu => ?_⟩, hnew⟩
    · split
      · exact .inr ⟨_, hm, rfl⟩
      · exact hx2
    · rcases Array.mem_push.1 hgs with h3 | h3
      · have := hseen g hg h3 u hu; split <;> omega
      · obtain rfl := en_same mok.2.1 hg hf h3
        rw [ht] at hu
        have : t' = u := by simpa [intv] using hu
        split <;> omega
  · have := hk w' (Keep.whole hw'.right)
    rw [low_eq hx1 (fun q hq => ?_) hx2] at this
    · exact this
    · obtain ⟨f, hf, _, hv⟩ := hse q hq
      exact hseen f hf (hall f hf) _ hv
/-! ### Sums over what was met of a map -/
def wsum (f : Int → Nat) (es : List En) (seen : Array Nat) : Nat := ((es.filter fun e => decide (e.b ∈ seen)).map fun e => f e.k).sum
theorem wsum_none (f : Int → Nat) (es : List En) : wsum f es #[] = 0 := by
  unfold wsum
  rw [List.filter_eq_nil_iff.2 (by simp)]; rfl
theorem wsum_push (f : Int → Nat) : ∀ {es : List En} {seen : Array Nat} {e : En}, (es.map En.b).Nodup → e ∈ es → e.b ∉ seen → wsum f es (seen.push e.b) = wsum f es seen + f e.k
  | [], _, _, _, he, _ => by simp at he
  | g :: r, seen, e, hn, he, hs => by
    simp only [List.map_cons, List.nodup_cons] at hn
    unfold wsum
    simp only [List.filter_cons]
    rcases List.mem_cons.1 he with h | h
    · subst h
      have h1 : decide (e.b ∈ seen.push e.b) = true := by simp
      have h2 : decide (e.b ∈ seen) = false := by simpa using hs
      have h3 : (r.filter fun e' => decide (e'.b ∈ seen.push e.b)) = r.filter fun e' => decide (e'.b ∈ seen) := by
        refine List.filter_congr fun x hx => ?_
        have : x.b ≠ e.b := fun h => hn.1 (h ▸ List.mem_map_of_mem (f := En.b) hx)
        simp [this]
      rw [h1, h2, h3]; simp; omega
    · have ih := wsum_push f hn.2 h hs
      unfold wsum at ih
      have hne : g.b ≠ e.b := fun h' => hn.1 (h' ▸ List.mem_map_of_mem (f := En.b) h)
      have h1 : decide (g.b ∈ seen.push e.b) = decide (g.b ∈ seen) := by simp [hne]
      rw [h1]
      by_cases h2 : g.b ∈ seen
      · simp only [h2, decide_true, if_true, List.map_cons, List.sum_cons, ih]; omega
      · simp only [h2, decide_false, Bool.false_eq_true, if_false]; exact ih
theorem wsum_all (f : Int → Nat) {es : List En} {seen : Array Nat} (h : ∀ e ∈ es, e.b ∈ seen) : wsum f es seen = (es.map fun e => f e.k).sum := by
  unfold wsum
  rw [List.filter_eq_self.2 fun e he => by simpa using h e he]
theorem wsum_le (f : Int → Nat) (es : List En) (seen : Array Nat) (n : Nat) (h : ∀ e ∈ es, f e.k ≤ n) : wsum f es seen ≤ es.length * n := by
  unfold wsum
  induction es with
  | nil => simp
  | cons g r ih =>
    have := ih fun e he => h e (by simp [he])
    have hg := h g (by simp)
    simp only [List.filter_cons, List.length_cons, Nat.succ_mul]
    split
    · simp only [List.map_cons, List.sum_cons]; omega
    · omega
theorem vers_sum {M : XMap} (hn : (M.vers.map Prod.fst).Nodup) (g : List Put → Nat) {es : List En} (hk : es.map En.k = M.vers.map Prod.fst) : (es.map fun e => g (versOf M.vers e.k)).sum = (M.vers.map fun q => g q.2).sum := by
  have : (es.map fun e => g (versOf M.vers e.k)) = (M.vers.map Prod.fst).map fun k => g (versOf M.vers k) := by rw [← hk, List.map_map]; rfl
  rw [this, List.map_map]
  congr 1
  refine List.map_congr_left fun q hq => ?_
  simp only [Function.comp_def, versOf]
  rw [lkp_of_mem hn (show (q.1, q.2) ∈ M.vers from hq)]; rfl
theorem slmapA_iterK {β : Type} {A : SV → β → HP} {r : Nat} {l : List (Int × β)} {R : HP} {w : World} (h : Sat (slmapA A r l * R) w) : ∃ es clock, ∃ xs : List (Int × (SV × β)), MapOk es clock ∧ on2 Prod.snd xs = l ∧ kvs es = on2 (fun x => slv x.1) xs ∧ Sat (mapE r es clock * (all xs (fun x => A x.2.1 x.2.2) * R)) w := by
  obtain ⟨xs, rfl, h1⟩ := slmapA_open h
  obtain ⟨es, clock, ok, hkv, h2⟩ := mapA_open h1
  exact ⟨es, clock, xs, ok, rfl, hkv, h2⟩
theorem kvs_keys {β : Type} {es : List En} {xs : List (Int × (SV × β))} (h : kvs es = on2 (fun x => slv x.1) xs) : es.map En.k = (on2 Prod.snd xs).map Prod.fst := by
  have := congrArg (List.map Prod.fst) h
  rw [keys_on2] at this ⊢
  rw [← this]; simp [kvs, Function.comp_def]
theorem kvs_mem {β : Type} {es : List En} {xs : List (Int × (SV × β))} (h : kvs es = on2 (fun x => slv x.1) xs) {f : En} (hf : f ∈ es) : ∃ s b, (f.k, (s, b)) ∈ xs ∧ f.v = slv s := by
  have : (f.k, f.v) ∈ kvs es := List.mem_map.2 ⟨f, hf, rfl⟩
  rw [h] at this
  obtain ⟨x, hx, e1⟩ := List.mem_map.1 this
  simp only [Prod.mk.injEq] at e1
  exact ⟨x.2.1, x.2.2, by rw [← e1.1]; exact hx, e1.2.symm⟩
theorem xmap_versions {B : Nat} {p : Option Addr} {M : XMap} {R : HP} {w : World} {K : Int → World → Prop} (h : Sat (xmapA p M * R) w) (ok : XOk B M) (hB : B ≤ 2 ^ 20) (hk : ∀ w', Keep w w' → K M.versions w') : c_extmap_Map_Versions p w K := by
  obtain ⟨b, rfl⟩ := xmap_ptr h
  obtain ⟨r, h1⟩ := xmapA_open h
  refine extmap_Map_Versions_go ?_
  unfold f_extmap_Map_Versions
  refine gone_some ((objA_cells h1).1 0) (bsplit_decide.2 ⟨fun h0 => by have := ok.1.1; omega, fun _ => ?_⟩)
  rw [onP_some, add_mk]
  refine ⟨some r, (objA_cells h1).1 1, ?_⟩
  rw [onM_some]
  have hnd := slmapA_nodup h1.right
  obtain ⟨es, cl, xs, mok, hxs, hkv, h2⟩ := slmapA_iterK h1.right
  have hkeys : es.map En.k = M.vers.map Prod.fst := by rw [kvs_keys hkv, hxs]
  have hesl : es.length = M.vers.length := by have := congrArg List.length hkeys; simpa using this
  have hval : ∀ f ∈ es, ∃ s, f.v = slv s ∧ s.n = (versOf M.vers f.k).length := fun f hf => by
    obtain ⟨s, b', hm, hv⟩ := kvs_mem hkv hf
    refine ⟨s, hv, ?_⟩
    have hb : Sat (putsA s b') w := all_mem (A := fun x : Int × (SV × List Put) => putsA x.2.1 x.2.2) hm h2.right.left
    have : (f.k, b') ∈ M.vers := hxs ▸ List.mem_map.2 ⟨(f.k, (s, b')), hm, rfl⟩
    unfold versOf
    rw [lkp_of_mem hnd this]
    exact (putsA_on hb).1
  refine ⟨_, cl, h2.get, ?_⟩
  rw [withW_iff]
  have hit : Sat (iterP w.heap.size r cl #[] * whole w) (w.alloc (.mapIter (some r) cl #[] cl)) := (sat_whole w).alloc _
  generalize w.heap.size = it at hit ⊢
  have hmap : ∀ w', Sat (whole w) w' → mapAt w' r .i64 es cl := fun w' hw => keep_heap (Keep.whole hw) (mapE_at h2)
  have hwle : ∀ seen, wsum (fun k => (versOf M.vers k).length) es seen ≤ 2 ^ 54 := fun seen => by
    refine Nat.le_trans (wsum_le _ es seen (2 ^ 20) fun e he => Nat.le_trans (vers_len ok e.k).1 hB) ?_
    rw [hesl]
    have := ok.2.1
    calc M.vers.length * 2 ^ 20 ≤ 2 ^ 34 * 2 ^ 20 := Nat.mul_le_mul_right _ (by omega)
      _ ≤ 2 ^ 54 := by decide
  refine loop_i (fun (x : Int) w' => ∃ seen, Sat (iterP it r cl seen * whole w) w' ∧ x = (wsum (fun k => (versOf M.vers k).length) es seen : Nat)) (fun _ w' => match w'.heap[it]? with | some (.mapIter _ _ seen _) => left es seen | _ => 0) ⟨#[], hit, by rw [wsum_none]; rfl⟩ ?_
  rintro x w4 ⟨seen, hw, rfl⟩
  have hleft : (match w4.heap[it]? with | some (.mapIter _ _ seen _) => left es seen | _ => 0) = left es seen := by rw [hw.get]
  rw [hleft]
  refine iter_step (enc := fun x : SV => .slice x.a x.n x.c) hw hmap mok (fun f hf => ?_) (fun f hf hfs t ht w' hw' => ?_) (fun hall w' hw' => ?_)
  · obtain ⟨s, hv, _⟩ := hval f hf
    exact ⟨s, hv⟩
  · have hnew : (match w'.heap[it]? with | some (.mapIter _ _ seen _) => left es seen | _ => 0) < left es seen := by rw [hw'.get]; exact left_lt hf hfs
    obtain ⟨s, hv, hl⟩ := hval f hf
    obtain rfl : t = s := by
      rw [ht] at hv; unfold slv at hv
      cases t; cases s; simp_all
    have hp := wsum_push (fun k => (versOf M.vers k).length) mok.2.1 hf hfs
    have h54 := hwle (seen.push f.b)
    rw [withI_iff, hl]
    refine ⟨⟨seen.push f.b, hw', ?_⟩, hnew⟩
    rw [hp, wrap_of (by omega) (by omega)]; omega
  · have := hk w' (Keep.whole hw'.right)
    rw [wsum_all _ hall, vers_sum hnd List.length hkeys]
    exact this
theorem mgr_versions {B : Nat} {p : Option Addr} {M : Mgr} {R : HP} {w : World} {K : Int → World → Prop} (h : Sat (mgrA p M * R) w) (ok : XOk B M.m) (hB : B ≤ 2 ^ 20) (hk : ∀ w', Keep w w' → K M.m.versions w') : c_txn_Manager_Versions p w K := by
  obtain ⟨mp, bk, r, qs, xs, hx, h1⟩ := mgrA_open h
  obtain ⟨a, b, c, rfl, rfl, rfl⟩ := mgr_ptr h1
  unfold mgrO at h1
  have h2 := h1.eq (mul_assoc' _ _ _)
  refine txn_Manager_Versions_go (mgone_c h2 (bsplit_iff.2 ⟨fun e => (by cases e), fun _ => ?_⟩))
  rw [onP_some]
  refine ⟨_, (objA_cells h2).1 0, xmap_versions (h2.right.eq (mul_assoc' _ _ _)) ok hB hk⟩
end Go.Proofs.YtbolgpjcmchfoaaGreat
