/- The laws 'ValidReads', 'ValidMore', 'ValidQueue', walked. -/
import Derived.Test.YtbolgpjcmchfoaaH
namespace Go.Proofs.Ytbolgpjcmchfoaa
open Go Go.Vc Go.Sl Go.Mo
theorem reads_c {sl sq sr : SV} {l q : List Tx} {at_ : Int} {r : List Ext} {w : World} {K : Bool → World → Prop} (hl : txsOn (hp w) sl l) (hq : txsOn (hp w) sq q) (hr : extsOn (hp w) sr r) (hk : ∀ w', Keep w w' → K true w') : c_scarplaw16_ValidReads sl sq at_ sr w K := by
  refine scarplaw16_ValidReads_go ?_
  unfold f_scarplaw16_ValidReads
  refine small_c hl hq fun y w2 k2 hsm => ?_
  refine bsplit_iff.2 ⟨fun _ => awake_c fun w' k' => hk _ (k2.trans k'), fun hy => ?_⟩
  obtain ⟨b1, b2, b3, _⟩ := hsm (by simpa using hy)
  have hrn := hr.1
  refine xmap_new (n := 50) (sat_whole w2) (by omega) fun p w6 h6 => ?_
  obtain ⟨b, rfl⟩ := xmap_ptr h6
  refine bsplit_iff.2 ⟨fun e => (by simp at e), fun _ => bsplit_iff.2 ⟨fun e => (by cases e), fun _ => ?_⟩⟩
  have h6' : Sat (xmapA (some ⟨b, 0, none⟩) ⟨50, [], 0⟩ * (1 * whole w)) w6 := (Sat.frame h6 (k2.sat (sat_whole w))).eq (by rw [one_mul'])
  refine fill_c hl b1 h6' fun M w8 hM h8 => ?_
  refine sets_c (l := r) h8 (fun w' hw' => extsOn_le (keep_le (Keep.whole hw'.right.right)) hr) (by omega) fun p1 q1 o1 w15 _ h15 => ?_
  refine sets_c (l := []) h15 (fun w' hw' => extsOn_none) (by simp) fun p2 q2 o2 w17 _ h17 => ?_
  rw [withW_iff]
  have h18 := h17.alloc (.cells #[.int .i64 1000, .int .i64 5] 44)
  refine sets_c (l := [⟨1000, 5⟩]) h18 (fun w' hw' => ext1_on hw' rfl) (by simp) fun p3 q3 o3 w20 _ h20 => ?_
  refine bsplit_iff.2 ⟨fun _ => bsplit_iff.2 ⟨fun _ => bsplit_iff.2 ⟨fun _ => ?_, fun e => (by cases e)⟩, fun e => (by cases e)⟩, fun e => (by cases e)⟩
  generalize w17.heap.size = e1 at h18 h20
  have s3 := h20.left
  have s2 := h20.right.right.right.left
  have s1 := h20.right.right.right.right.right.left
  have sM := h20.right.right.right.right.right.right.right
  have kw : Keep w w20 := Keep.whole sM.right.right
  have far : ∀ a k, cov (setOf [⟨1000, 5⟩]).l k → ¬ wroteAt M a k := fun a k hc ⟨v, hv, _⟩ => by
    have h1 := ((setOf_cov (by simp)).1 hc).2
    rw [cov_one] at h1
    have h2 := (hM.ok.2.2 _ hv).1
    rw [hM.bl] at h2
    simp only at h1 h2; omega
  have now : ∀ k, ¬ wroteAt M M.last k := fun k ⟨v, hv, h⟩ => by have := hM.last _ hv; simp only at this; omega
  have c1 : validM M q at_ (setOf r) (setOf []) = 0 := check_no fun ⟨h, _⟩ => h setOf_nil
  have c2 : validM M [] at_ (setOf []) (setOf [⟨1000, 5⟩]) = 0 := check_no fun ⟨_, k, hc, h⟩ => by
    rcases h with h | ⟨t, ht, _⟩
    · rcases hc with hc | hc
      · rw [setOf_nil] at hc; exact cov_nil hc
      · exact far _ k hc h
    · simp at ht
  have c3 : validM M [] M.last (setOf r) (setOf [⟨1000, 5⟩]) = 0 := check_no fun ⟨_, k, _, h⟩ => by
    rcases h with h | ⟨t, ht, _⟩
    · exact now k h
    · simp at ht
  have hB : l.length ≤ 2 ^ 31 := by omega
  refine check_c (l := q) sM hM.ok hB (s1.eq (mul_one' _).symm) (by omega) (s2.eq (mul_one' _).symm) (by simp) (txsOn_le (keep_le kw) hq) b2 fun w22 k22 => ?_
  rw [c1]
  refine bsplit_decide.2 ⟨fun _ => ?_, fun e => absurd rfl e⟩
  refine check_c (l := []) (k22.sat sM) hM.ok hB ((k22.sat s2).eq (mul_one' _).symm) (by simp) ((k22.sat s3).eq (mul_one' _).symm) (by simp) txsOn_none (by simp) fun w24 k24 => ?_
  rw [c2]
  refine bsplit_decide.2 ⟨fun _ => ?_, fun e => absurd rfl e⟩
  have k2224 := k22.trans k24
  refine xmap_last (k2224.sat sM) ?_
  refine check_c (l := []) (k2224.sat sM) hM.ok hB ((k2224.sat s1).eq (mul_one' _).symm) (by omega) ((k2224.sat s3).eq (mul_one' _).symm) (by simp) txsOn_none (by simp) fun w28 k28 => ?_
  rw [c3]
  refine bsplit_decide.2 ⟨fun _ => ?_, fun e => absurd rfl e⟩
  exact awake_c fun w' k' => hk _ (kw.trans (k2224.trans (k28.trans k')))
theorem setOf_more {r m : List Ext} {k : Int} (hn : (r ++ m).length ≤ 100) (hm : (r ++ m).all may = true) (h : cov (setOf r).l k) : cov (setOf (r ++ m)).l k := by
  rw [setOf_cov hn]
  rw [setOf_cov (by simp at hn; omega)] at h
  exact ⟨hm, cov_append.2 (.inl h.2)⟩
theorem more_c {sl sr sv sm : SV} {l : List Tx} {at_ early : Int} {r v m : List Ext} {w : World} {K : Bool → World → Prop} (hl : txsOn (hp w) sl l) (hr : extsOn (hp w) sr r) (hv : extsOn (hp w) sv v) (hm : extsOn (hp w) sm m) (hk : ∀ w', Keep w w' → K true w') : c_scarplaw16_ValidMore sl at_ sr sv sm early w K := by
  refine scarplaw16_ValidMore_go ?_
  unfold f_scarplaw16_ValidMore
  refine small_c hl txsOn_none fun y w2 k2 hsm => ?_
  have aw : ∀ w', Keep w w' → c_scarplaw16_awake w' fun x w'' => K x w'' := fun w' k => awake_c fun w'' k' => hk _ (k.trans k')
  refine bsplit_iff.2 ⟨fun _ => aw _ k2, fun hy => ?_⟩
  obtain ⟨b1, _, b3, b4⟩ := hsm (by simpa using hy)
  have hrn := hr.1
  have hvn := hv.1
  have hmn := hm.1
  refine bsplit_decide.2 ⟨fun _ => aw _ k2, fun g1 => bsplit_decide.2 ⟨fun _ => aw _ k2, fun g2 => bsplit_decide.2 ⟨fun _ => aw _ k2, fun g3 => bsplit_decide.2 ⟨fun _ => aw _ k2, fun g4 => bsplit_decide.2 ⟨fun _ => aw _ k2, fun g5 => bsplit_decide.2 ⟨fun _ => aw _ k2, fun g6 => ?_⟩⟩⟩⟩⟩⟩
  refine xmap_new (n := 50) (sat_whole w2) (by omega) fun p w6 h6 => ?_
  obtain ⟨b, rfl⟩ := xmap_ptr h6
  refine bsplit_iff.2 ⟨fun e => (by simp at e), fun _ => bsplit_iff.2 ⟨fun e => (by cases e), fun _ => ?_⟩⟩
  have h6' : Sat (xmapA (some ⟨b, 0, none⟩) ⟨50, [], 0⟩ * (1 * whole w)) w6 := (Sat.frame h6 (k2.sat (sat_whole w))).eq (by rw [one_mul'])
  refine fill_c hl b1 h6' fun M w8 hM h8 => ?_
  refine sets_c (l := r) h8 (fun w' hw' => extsOn_le (keep_le (Keep.whole hw'.right.right)) hr) (by omega) fun p1 q1 o1 w15 _ h15 => ?_
  refine sets_c (l := v) h15 (fun w' hw' => extsOn_le (keep_le (Keep.whole hw'.right.right.right.right)) hv) (by omega) fun p2 q2 o2 w17 _ h17 => ?_
  rw [withW_iff]
  have h18 := h17.alloc (.cells #[] 44)
  have h19 : Sat (extsA ⟨some ⟨w17.heap.size, 0, none⟩, 0, 0⟩ [] * (setA p2 (setOf v) * (setA q2 ⟨100, o2⟩ * (setA p1 (setOf r) * (setA q1 ⟨100, o1⟩ * (xmapA (some ⟨b, 0, none⟩) M * (1 * whole w))))))) (w17.alloc (.cells #[] 44)) := ownS_nil h18.right rfl rfl
  refine exts_append (m := r) h19 (extsOn_le (keep_le (Keep.whole h18.right.right.right.right.right.right.right)) hr) (by simp; omega) fun s31 w32 h32 => ?_
  refine exts_append (m := m) h32 (extsOn_le (keep_le (Keep.whole h32.right.right.right.right.right.right.right)) hm) (by simp; omega) fun s33 w34 h34 => ?_
  have hlen : ([] ++ r ++ m).length ≤ 100 := by simp; omega
  refine sets_c (l := [] ++ r ++ m) h34 (fun w' hw' => extsA_on hw'.left) hlen fun p3 q3 o3 w36 ho3 h36 => ?_
  simp only [List.nil_append] at h36 ho3 hlen
  refine bsplit_iff.2 ⟨fun e => (by cases e), fun _ => bsplit_iff.2 ⟨fun e => (by cases e), fun _ => bsplit_iff.2 ⟨fun e => (by cases e), fun _ => ?_⟩⟩⟩
  have s3 := h36.left
  have s3' := h36.right.left
  have s2 := h36.right.right.right.left
  have s1 := h36.right.right.right.right.right.left
  have sM := h36.right.right.right.right.right.right.right
  have kw : Keep w w36 := Keep.whole sM.right.right
  have hB : l.length ≤ 2 ^ 31 := by omega
  refine check_c (l := []) sM hM.ok hB (s1.eq (mul_one' _).symm) (by omega) (s2.eq (mul_one' _).symm) (by omega) txsOn_none (by simp) fun w38 k38 => ?_
  have h8a : ∀ a, validM M [] a (setOf r) (setOf v) = 8 ∨ validM M [] a (setOf r) (setOf v) = 0 := fun a => by
    by_cases h : clashes M [] a (setOf r).l (setOf v).l
    · exact .inl (check_yes h)
    · exact .inr (check_no h)
  refine bsplit_iff.2 ⟨fun _ => aw _ (kw.trans k38), fun h0 => ?_⟩
  have hc : clashes M [] at_ (setOf r).l (setOf v).l := by
    refine Classical.byContradiction fun h => ?_
    rw [check_no h] at h0
    simp at h0
  have h36' := k38.sat h36
  obtain ⟨qb, rfl⟩ := set_ptr (h36'.right.eq (by ac_rfl : _ = setA q3 ⟨100, o3⟩ * (extsA s33 (r ++ m) * (setA p2 (setOf v) * (setA q2 ⟨100, o2⟩ * (setA p1 (setOf r) * (setA q1 ⟨100, o1⟩ * (xmapA (some ⟨b, 0, none⟩) M * (1 * whole w)))))))))
  obtain ⟨sq, h37⟩ := setA_open h36'.right
  rw [onP_some, add_mk]
  refine ⟨sq, (objA_cells h37).1 1, ?_⟩
  have hsq : sq.n = o3.length := extsA_n h37.right
  rw [hsq]
  refine bsplit_decide.2 ⟨fun _ => aw _ (kw.trans k38), fun hne => ?_⟩
  have hne' : o3 ≠ [] := fun e => hne (by rw [e]; rfl)
  by_cases hm3 : (r ++ m).all may = true
  · have hwrap : IntKind.i64.wrap (at_ - early) = at_ - early := wrap_of (by omega) (by omega)
    have c1 : validM M [] at_ (setOf (r ++ m)) (setOf v) = 8 := by
      obtain ⟨x1, k, x2, x3⟩ := hc
      refine check_yes ⟨x1, k, ?_, x3⟩
      rcases x2 with x2 | x2
      · exact .inl (setOf_more hlen hm3 x2)
      · exact .inr x2
    have c2 : validM M [] (at_ - early) (setOf r) (setOf v) = 8 := by
      obtain ⟨x1, k, x2, x3⟩ := hc
      refine check_yes ⟨x1, k, x2, ?_⟩
      rcases x3 with ⟨u, hu, hlt⟩ | x3
      · exact .inl ⟨u, hu, by omega⟩
      · exact .inr x3
    refine check_c (l := []) (k38.sat sM) hM.ok hB ((k38.sat s3).eq (mul_one' _).symm) hlen ((k38.sat s2).eq (mul_one' _).symm) (by omega) txsOn_none (by simp) fun w46 k46 => ?_
    rw [c1]
    refine bsplit_decide.2 ⟨fun _ => ?_, fun e => absurd rfl e⟩
    have kk := k38.trans k46
    refine check_c (l := []) (kk.sat sM) hM.ok hB ((kk.sat s1).eq (mul_one' _).symm) (by omega) ((kk.sat s2).eq (mul_one' _).symm) (by omega) txsOn_none (by simp) fun w48 k48 => ?_
    rw [hwrap, c2]
    refine bsplit_decide.2 ⟨fun _ => aw _ (kw.trans (kk.trans k48)), fun e => absurd rfl e⟩
  · exact absurd (ho3.2 (.inr (by cases e : (r ++ m).all may; rfl; exact absurd e hm3))) hne'
theorem queue_c {t0 : Int} {st sr sv : SV} {l : List Put} {r v : List Ext} {w : World} {K : Bool → World → Prop} (hl : putsOn (hp w) st l) (hr : extsOn (hp w) sr r) (hv : extsOn (hp w) sv v) (hk : ∀ w', Keep w w' → K true w') : c_scarplaw16_ValidQueue t0 st sr sv w K := by
  refine scarplaw16_ValidQueue_go ?_
  unfold f_scarplaw16_ValidQueue
  rw [withW_iff]
  have h1 : Sat (objA (some ⟨w.heap.size, 0, none⟩) [.int .i64 t0, .slice st.a st.n st.c] * whole w) (w.alloc (.cells [.int .i64 t0, .slice st.a st.n st.c].toArray 33)) := objA_new (sat_whole w)
  change Sat _ (w.alloc (.cells #[.int .i64 t0, .slice st.a st.n st.c] 33)) at h1
  generalize w.alloc (.cells #[.int .i64 t0, .slice st.a st.n st.c] 33) = w1 at h1 ⊢
  generalize w.heap.size = tb at h1 ⊢
  have d1 := (objA_cells h1).1
  refine ⟨(t0, st), ⟨d1 0, by rw [add_mk]; exact d1 1⟩, ?_⟩
  rw [withW_iff]
  have h3 := h1.alloc (.cells #[.int .i64 t0, .slice st.a st.n st.c] 33)
  have on1 := tx1_on (k := t0) (l := l) (c := 1) h3 (putsOn_le (keep_le (Keep.whole h3.right.right)) hl) rfl
  have h3' := h3.right
  have k3 : Keep w1 (w1.alloc (.cells #[.int .i64 t0, .slice st.a st.n st.c] 33)) := Keep.alloc _ _
  generalize w1.alloc (.cells #[.int .i64 t0, .slice st.a st.n st.c] 33) = w3 at h3' on1 k3 ⊢
  refine small_c on1 txsOn_none fun y w5 k5 hsm => ?_
  have aw : ∀ w', Keep w w' → c_scarplaw16_awake w' fun x w'' => K x w'' := fun w' k => awake_c fun w'' k' => hk _ (k.trans k')
  have h5 := k5.sat h3'
  refine bsplit_iff.2 ⟨fun _ => aw _ (Keep.whole h5.right), fun hy => ?_⟩
  obtain ⟨b1, _, b3, b4⟩ := hsm (by simpa using hy)
  have hpl : l.length ≤ 10000 := by have := b1.2 ⟨t0, l⟩ (by simp); exact this
  have hrn := hr.1
  have hvn := hv.1
  refine objA_store h5 (by simp) fun w8 h8 => ?_
  simp only [List.set_cons_zero] at h8
  refine xmap_new (n := 50) h8 (by omega) fun p w10 h10 => ?_
  obtain ⟨pb, rfl⟩ := xmap_ptr h10
  refine xmap_new (n := 50) h10 (by omega) fun q w12 h12 => ?_
  obtain ⟨qb, rfl⟩ := xmap_ptr h12
  refine bsplit_iff.2 ⟨fun e => (by simp at e), fun _ => bsplit_iff.2 ⟨fun e => (by simp at e), fun _ => bsplit_iff.2 ⟨fun e => (by cases e), fun _ => bsplit_iff.2 ⟨fun e => (by cases e), fun _ => ?_⟩⟩⟩⟩
  have h12' : Sat (xmapA (some ⟨pb, 0, none⟩) ⟨50, [], 0⟩ * (xmapA (some ⟨qb, 0, none⟩) ⟨50, [], 0⟩ * (objA (some ⟨tb, 0, none⟩) [.int .i64 9, .slice st.a st.n st.c] * whole w))) w12 := h12.eq (by ac_rfl)
  have d12 := (objA_cells h12'.right.right).1
  refine ⟨(9, st), ⟨d12 0, by rw [add_mk]; exact d12 1⟩, ?_⟩
  refine xmap_apply (t := ⟨9, l⟩) h12' filled_new.ok (by omega) (fun w' hw' => putsOn_le (keep_le (Keep.whole hw'.right.right)) hl) (by simp only; omega) fun w23 h23 => ?_
  have hM := filled_apply filled_new ⟨9, l⟩
  rcases apply_cases ⟨50, [], 0⟩ ⟨9, l⟩ with ⟨_, hne⟩ | ⟨h0, _, hp, hrange, happ⟩
  · exact bsplit_iff.2 ⟨fun _ => aw _ (Keep.whole h23.right.right.right), fun e => absurd (by simpa using e) hne⟩
  rw [h0]
  refine bsplit_iff.2 ⟨fun e => (by simp at e), fun _ => ?_⟩
  -- what was written: the puts' blocks, at 9
  have hwr : ∀ a k, wroteAt (XMap.apply ⟨50, [], 0⟩ ⟨9, l⟩).1 a k ↔ a < 9 ∧ ∃ x ∈ l, x.lba = k := by
    rw [happ]
    simp only
    have key : ∀ (m : List Put) (acc : List (Int × List Put)) (a k : Int), (∀ q ∈ acc, lastT q.2 = 9) → ((∃ v, (k, v) ∈ m.foldl (addVer 9) acc ∧ a < lastT v) ↔ a < 9 ∧ ((∃ v, (k, v) ∈ acc) ∨ ∃ x ∈ m, x.lba = k)) := by
      intro m
      induction m with
      | nil =>
        intro acc a k h
        simp only [List.foldl_nil, List.not_mem_nil, false_and, exists_false, or_false]
        constructor
        · rintro ⟨v, hv, hl⟩; rw [h _ hv] at hl; exact ⟨hl, v, hv⟩
        · rintro ⟨hl, v, hv⟩; exact ⟨v, hv, by rw [h _ hv]; exact hl⟩
      | cons x m ih =>
        intro acc a k h
        rw [List.foldl_cons, ih _ a k (fun q hq => by
          unfold addVer at hq
          rcases mem_put hq with e | e
          · subst e; simp [lastT]
          · exact h q e)]
        have hm : (∃ v, (k, v) ∈ addVer 9 acc x) ↔ (∃ v, (k, v) ∈ acc) ∨ x.lba = k := by
          unfold addVer
          constructor
          · rintro ⟨v, hv⟩
            rcases mem_put hv with e | e
            · simp only [Prod.mk.injEq] at e; exact .inr e.1.symm
            · exact .inl ⟨v, e⟩
          · intro hor
            have : ∀ (acc : List (Int × List Put)) (y : List Put), ((∃ v, (k, v) ∈ acc) ∨ x.lba = k) → ∃ v, (k, v) ∈ put acc x.lba y := by
              intro acc y
              induction acc with
              | nil =>
                rintro (⟨v, hv⟩ | e)
                · simp at hv
                · exact ⟨y, by simp [put, e]⟩
              | cons z acc ih2 =>
                obtain ⟨j, u⟩ := z
                simp only [put]
                split
                · rename_i e'
                  rintro (⟨v, hv⟩ | e)
                  · rcases List.mem_cons.1 hv with e2 | e2
                    · simp only [Prod.mk.injEq] at e2; exact ⟨y, by simp [e2.1]⟩
                    · exact ⟨v, by simp [e2]⟩
                  · exact ⟨y, by rw [← e, ← e']; simp⟩
                · rintro (⟨v, hv⟩ | e)
                  · rcases List.mem_cons.1 hv with e2 | e2
                    · exact ⟨u, by simp only [Prod.mk.injEq] at e2; simp [e2.1]⟩
                    · obtain ⟨v', hv'⟩ := ih2 (.inl ⟨v, e2⟩); exact ⟨v', by simp [hv']⟩
                  · obtain ⟨v', hv'⟩ := ih2 (.inr e); exact ⟨v', by simp [hv']⟩
            exact this acc _ hor
        rw [hm]
        simp only [List.mem_cons, exists_eq_or_imp, or_assoc]
    intro a k
    unfold wroteAt
    rw [key l [] a k (by simp)]
    simp
  have hwt : ∀ k, waitsAt [⟨9, l⟩] k ↔ ∃ x ∈ l, x.lba = k := fun k => by simp [waitsAt]
  generalize (XMap.apply ⟨50, [], 0⟩ ⟨9, l⟩).1 = M at h23 hM hwr
  refine sets_c (l := r) h23 (fun w' hw' => extsOn_le (keep_le (Keep.whole hw'.right.right.right)) hr) (by omega) fun p1 q1 o1 w27 _ h27 => ?_
  refine sets_c (l := v) h27 (fun w' hw' => extsOn_le (keep_le (Keep.whole hw'.right.right.right.right.right)) hv) (by omega) fun p2 q2 o2 w29 _ h29 => ?_
  rw [withW_iff]
  have h31 := h29.drew
  have s2 := h31.left
  have s1 := h31.right.right.left
  have sM := h31.right.right.right.right
  have sN := h31.right.right.right.right.right
  have sT := h31.right.right.right.right.right.right
  have kw : Keep w w29.drew := Keep.whole sT.right
  have d31 := (objA_cells sT).1
  generalize w29.drew = w31 at h31 s1 s2 sM sN sT kw d31 ⊢
  have c5 : validM M [] 5 (setOf r) (setOf v) = validM ⟨50, [], 0⟩ [⟨9, l⟩] 5 (setOf r) (setOf v) := by
    by_cases h : clashes M [] 5 (setOf r).l (setOf v).l
    · rw [check_yes h]
      obtain ⟨x1, k, x2, x3⟩ := h
      refine (check_yes ⟨x1, k, x2, .inr ?_⟩).symm
      rcases x3 with x3 | ⟨t, ht, _⟩
      · exact (hwt k).2 ((hwr 5 k).1 x3).2
      · simp at ht
    · rw [check_no h]
      refine (check_no fun ⟨x1, k, x2, x3⟩ => h ⟨x1, k, x2, .inl ?_⟩).symm
      rcases x3 with ⟨u, hu, _⟩ | x3
      · simp at hu
      · exact (hwr 5 k).2 ⟨by omega, (hwt k).1 x3⟩
  have c9 : validM M [] 9 (setOf r) (setOf v) = 0 := check_no fun ⟨_, k, _, x3⟩ => by
    rcases x3 with x3 | ⟨t, ht, _⟩
    · have := ((hwr 9 k).1 x3).1; omega
    · simp at ht
  refine ⟨fun w' => Keep w31 w', Keep.refl _, bsplit_iff.2 ⟨fun _ => bsplit_iff.2 ⟨fun _ => ⟨(9, st), fun w' k => ⟨keep_cell k (d31 0), by rw [add_mk]; exact keep_cell k (d31 1)⟩, ?_, ?_⟩, fun e => (by cases e)⟩, fun e => (by cases e)⟩⟩
  · refine check_c (l := []) sM hM.ok (by omega) (s1.eq (mul_one' _).symm) (by omega) (s2.eq (mul_one' _).symm) (by omega) txsOn_none (by simp) fun w35 k35 => ⟨k35, ?_⟩
    rw [withW_iff]
    have h36 := (k35.sat sT).alloc (.cells #[.int .i64 9, .slice st.a st.n st.c] 33)
    have k36 : Keep w31 (w35.alloc (.cells #[.int .i64 9, .slice st.a st.n st.c] 33)) := k35.trans (Keep.alloc _ _)
    have on9 := tx1_on (k := 9) (l := l) (c := 1) h36 (putsOn_le (keep_le (kw.trans k36)) hl) rfl
    generalize w35.alloc (.cells #[.int .i64 9, .slice st.a st.n st.c] 33) = w36 at k36 on9 ⊢
    refine ⟨k36, ?_⟩
    refine check_c (l := [⟨9, l⟩]) (k36.sat sN) filled_new.ok (by omega) ((k36.sat s1).eq (mul_one' _).symm) (by omega) ((k36.sat s2).eq (mul_one' _).symm) (by omega) on9 ⟨by simp, by simpa using hpl⟩ fun w38 k38 => ⟨k36.trans k38, ?_⟩
    have kk := k36.trans k38
    refine bsplit_decide.2 ⟨fun _ => ?_, fun e => absurd c5 e⟩
    refine check_c (l := []) (kk.sat sM) hM.ok (by omega) ((kk.sat s1).eq (mul_one' _).symm) (by omega) ((kk.sat s2).eq (mul_one' _).symm) (by omega) txsOn_none (by simp) fun w40 k40 => ⟨kk.trans k40, ?_⟩
    refine bsplit_decide.2 ⟨fun _ => ?_, fun e => absurd c9 e⟩
    exact awake_c fun w' k' => ⟨kk.trans (k40.trans k'), hk _ (kw.trans (kk.trans (k40.trans k')))⟩
  · rw [withW_iff]
    have h36 := sT.alloc (.cells #[.int .i64 9, .slice st.a st.n st.c] 33)
    have k36 : Keep w31 (w31.alloc (.cells #[.int .i64 9, .slice st.a st.n st.c] 33)) := Keep.alloc _ _
    have on9 := tx1_on (k := 9) (l := l) (c := 1) h36 (putsOn_le (keep_le (kw.trans k36)) hl) rfl
    generalize w31.alloc (.cells #[.int .i64 9, .slice st.a st.n st.c] 33) = w43 at k36 on9 ⊢
    refine ⟨k36, ?_⟩
    refine check_c (l := []) (k36.sat sM) hM.ok (by omega) ((k36.sat s1).eq (mul_one' _).symm) (by omega) ((k36.sat s2).eq (mul_one' _).symm) (by omega) txsOn_none (by simp) fun w45 k45 => ⟨k36.trans k45, ?_⟩
    have k45' := k36.trans k45
    refine check_c (l := [⟨9, l⟩]) (k45'.sat sN) filled_new.ok (by omega) ((k45'.sat s1).eq (mul_one' _).symm) (by omega) ((k45'.sat s2).eq (mul_one' _).symm) (by omega) (txsOn_le (keep_le k45) on9) ⟨by simp, by simpa using hpl⟩ fun w47 k47 => ⟨k45'.trans k47, ?_⟩
    have kk := k45'.trans k47
    refine bsplit_decide.2 ⟨fun _ => ?_, fun e => absurd c5 e⟩
    refine check_c (l := []) (kk.sat sM) hM.ok (by omega) ((kk.sat s1).eq (mul_one' _).symm) (by omega) ((kk.sat s2).eq (mul_one' _).symm) (by omega) txsOn_none (by simp) fun w40 k40 => ⟨kk.trans k40, ?_⟩
    refine bsplit_decide.2 ⟨fun _ => ?_, fun e => absurd c9 e⟩
    exact awake_c fun w' k' => ⟨kk.trans (k40.trans k'), hk _ (kw.trans (kk.trans (k40.trans k')))⟩
theorem row_of {f : FuncId} {av : Array Value} {w : World} (h : callsR Try.prog f av [.cell .bool] w fun b w' => b = true ∧ Keep w w') : Calls Try.prog f av w fun e w' => e = .returned (.bool true) ∧ RowKit.Below w.heap.size w w' := by
  refine Calls.mono h ?_
  rintro e w' ⟨hs, b, rfl, rfl, hk⟩
  exact ⟨rfl, hs.os, hs.tape, hs.output, hk.size, hk⟩
theorem reads_row (w : World) (s0 : SV) (l0 : List Tx) (h0 : TxsArg w s0 l0) (s1 : SV) (l1 : List Tx) (h1 : TxsArg w s1 l1) (a : Int) (s2 : SV) (l2 : List Ext) (h2 : ExtsArg w s2 l2) : Calls Try.prog 5 #[.slice s0.a s0.n s0.c, .slice s1.a s1.n s1.c, .int .i64 a, .slice s2.a s2.n s2.c] w fun e w' => e = .returned (.bool true) ∧ RowKit.Below w.heap.size w w' :=
  row_of (reads_c h0.2.2 h1.2.2 h2.2.2 fun _ k => ⟨rfl, k⟩)
theorem more_row (w : World) (s0 : SV) (l0 : List Tx) (h0 : TxsArg w s0 l0) (a : Int) (s1 : SV) (l1 : List Ext) (h1 : ExtsArg w s1 l1) (s2 : SV) (l2 : List Ext) (h2 : ExtsArg w s2 l2) (s3 : SV) (l3 : List Ext) (h3 : ExtsArg w s3 l3) (b : Int) : Calls Try.prog 3 #[.slice s0.a s0.n s0.c, .int .i64 a, .slice s1.a s1.n s1.c, .slice s2.a s2.n s2.c, .slice s3.a s3.n s3.c, .int .i64 b] w fun e w' => e = .returned (.bool true) ∧ RowKit.Below w.heap.size w w' :=
  row_of (more_c h0.2.2 h1.2.2 h2.2.2 h3.2.2 fun _ k => ⟨rfl, k⟩)
theorem queue_row (w : World) (s : SV) (t : Tx) (h : putsOn (hp w) s t.puts) (s1 : SV) (l1 : List Ext) (h1 : ExtsArg w s1 l1) (s2 : SV) (l2 : List Ext) (h2 : ExtsArg w s2 l2) : Calls Try.prog 4 #[.agg #[.int .i64 t.time, .slice s.a s.n s.c], .slice s1.a s1.n s1.c, .slice s2.a s2.n s2.c] w fun e w' => e = .returned (.bool true) ∧ RowKit.Below w.heap.size w w' :=
  row_of (queue_c h h1.2.2 h2.2.2 fun _ k => ⟨rfl, k⟩)
end Go.Proofs.Ytbolgpjcmchfoaa
