/- Contracts of the sets of extents: what they take in. -/
import Derived.Test.YtbolgpjcmchfoaaGreatCf
namespace Go.Proofs.YtbolgpjcmchfoaaGreat
open Go Go.Vc Go.Sl Go.Mo
theorem exts_append {s b : SV} {l m : List Ext} {e : Nat} {R : HP} {w : World} {K : SV → World → Prop} (h : Sat (extsA s l * R) w) (hb : extsOn (hp w) b m) (hlen : l.length + m.length ≤ 2 ^ 36)
    (hk : ∀ s' w', Sat (extsA s' (l ++ m) * R) w' → K s' w') : appendR s b 2 16 [.int .i64 0, .int .i64 0] e w K := by
  have hn := extsA_n h
  refine append_own (news := m.flatMap encE) h (by rw [encE_length, hb.1]) (encE_one m) (rowOn_cells (extsOn_row hb)) (fun hno => ?_) (by rw [hn, hb.1]; omega) (by omega) rfl fun s' w' _ hw' => hk s' w' (by unfold extsA; rw [List.flatMap_append]; exact hw')
  have := (extsOn_row hb).1 hno
  have h2 := encE_length m
  rw [this] at h2
  have := hb.1
  simp at h2; omega
/-- One more extent, that lies in a block of its own. -/
theorem exts_push {s : SV} {l : List Ext} {x : Ext} {e b : Nat} {R : HP} {w : World} {K : SV → World → Prop} (h : Sat (extsA s l * R) w) (h1 : w.cell? ⟨b, 0, none⟩ = some (.int .i64 x.first)) (h2 : w.cell? ⟨b, 1, none⟩ = some (.int .i64 x.len)) (hlen : l.length + 1 ≤ 2 ^ 36)
    (hk : ∀ s' w', Sat (extsA s' (l ++ [x]) * R) w' → K s' w') : appendR s ⟨some ⟨b, 0, none⟩, 1, 1⟩ 2 16 [.int .i64 0, .int .i64 0] e w K := by
  refine exts_append (m := [x]) h ⟨rfl, fun i hi => ?_⟩ (by simpa using hlen) hk
  obtain rfl : i = 0 := by simpa using hi
  exact ⟨⟨b, 0, none⟩, rfl, h1, h2⟩
theorem grow_c {n : Nat} {R : HP} {w : World} {K : SV → World → Prop} (h : Sat R w) (hn : n ≤ 2 ^ 36) (hk : ∀ s w', Sat (extsA s [] * R) w' → K s w') : c_slices_Grow_api_Extent_api_Extent ⟨none, 0, 0⟩ (n : Int) w K := by
  refine slices_Grow_api_Extent_api_Extent_go ?_
  refine bsplit_decide.2 ⟨fun h0 => by omega, fun _ => ?_⟩
  rw [withI_iff]
  have e0 : IntKind.i64.wrap ((n : Int) - IntKind.i64.wrap (((0 : Nat) : Int) - ((0 : Nat) : Int))) = (n : Int) := by
    rw [wrap_of (x := ((0 : Nat) : Int) - ((0 : Nat) : Int)) (by omega) (by omega), wrap_of (by omega) (by omega)]; omega
  simp only [e0]
  refine bsplit_decide.2 ⟨fun h0 => ?_, fun h0 => hk _ _ (ownS_nil h rfl rfl)⟩
  refine ⟨by omega, by omega, by omega, ?_⟩
  refine ⟨by omega, by omega, by omega, by simp, by simp; omega, ?_, by omega, [], by simp, by simp [sub?], by simp, fun cap hcap => ⟨by omega, by omega, by omega, ?_⟩⟩
  · simp only [Int.toNat_natCast, Int.toNat_zero, Nat.sub_self]
    exact newCapOk_of (by omega) (by omega) (by omega)
  · have h1 := (h.alloc (.cells ([] ++ zrow [.int .i64 0, .int .i64 0] (n : Int).toNat ++ zrow [.int .i64 0, .int .i64 0] (cap - ((((0 : Nat) : Int)).toNat - (0 : Int).toNat + (n : Int).toNat))).toArray 56)).drew
    refine hk _ _ ?_
    have e1 : (sub? (some (⟨w.heap.size, 0, none⟩ : Addr)) (0 : Int).toNat cap 2) = some ⟨w.heap.size, 0, none⟩ := by
      unfold sub?
      split
      · rfl
      · simp
    show Sat (ownS 2 _ _ * R) _
    simp only [Int.toNat_natCast, Int.toNat_zero, Nat.sub_zero, Nat.sub_self, Nat.zero_add] at h1 hcap ⊢
    rw [show sub? (some (⟨w.heap.size, 0, none⟩ : Addr)) 0 cap 2 = some ⟨w.heap.size, 0, none⟩ from e1]
    refine ownS_mk (vs := []) (sp := zrow [.int .i64 0, .int .i64 0] n ++ zrow [.int .i64 0, .int .i64 0] (cap - n)) (t := 56) (by simpa using h1) (by simp) (by omega) ?_
    simp only [List.length_nil, List.length_append, zrow_length, List.length_cons]
    omega
theorem concat_c {s1 s2 : SV} {b : Nat} {l1 l2 : List Ext} {R : HP} {w : World} {K : SV → World → Prop} (h : Sat R w) (hc1 : w.cell? ⟨b, 0, none⟩ = some (slv s1)) (hc2 : w.cell? ⟨b, 1, none⟩ = some (slv s2)) (h1 : extsOn (hp w) s1 l1) (h2 : extsOn (hp w) s2 l2) (hlen : l1.length + l2.length ≤ 2 ^ 36)
    (hk : ∀ s w', Sat (extsA s (l1 ++ l2) * R) w' → K s w') : c_slices_Concat_api_Extent_api_Extent ⟨some ⟨b, 0, none⟩, 2, 2⟩ w K := by
  refine slices_Concat_api_Extent_api_Extent_go ?_
  have hn1 := h1.1
  have hn2 := h2.1
  have w01 : IntKind.i64.wrap ((0 : Int) + 1) = 1 := by rw [wrap_of (by omega) (by omega)]; rfl
  have w12 : IntKind.i64.wrap ((1 : Int) + 1) = 2 := by rw [wrap_of (by omega) (by omega)]; rfl
  have w1 : IntKind.i64.wrap 1 = 1 := wrap_of (by omega) (by omega)
  have w2 : IntKind.i64.wrap 2 = 2 := wrap_of (by omega) (by omega)
  -- the sizes
  refine loop_i (fun (x : Int × Int) w' => w' = w ∧ (x = (0, 0) ∨ x = (((l1.length : Nat) : Int), 1) ∨ x = (((l1.length + l2.length : Nat) : Int), 2))) (fun x _ => 2 - x.2.toNat) ⟨rfl, .inl rfl⟩ ?_
  rintro x w' ⟨rfl, rfl | rfl | rfl⟩
  · refine bsplit_decide.2 ⟨fun _ => ⟨by omega, by simp, ?_⟩, fun hge => by simp at hge⟩
    rw [onP_some]
    refine ⟨s1, hc1, ?_⟩
    rw [withI_iff, hn1, wrap_of (by omega) (by omega)]
    refine bsplit_decide.2 ⟨fun h0 => by omega, fun _ => ⟨⟨rfl, .inr (.inl (by simp [w1]))⟩, by simp [w1]⟩⟩
  · refine bsplit_decide.2 ⟨fun _ => ⟨by omega, by simp, ?_⟩, fun hge => by simp at hge⟩
    rw [onP_some]
    refine ⟨s2, hc2, ?_⟩
    rw [withI_iff, hn2, wrap_of (by omega) (by omega)]
    refine bsplit_decide.2 ⟨fun h0 => by omega, fun _ => ⟨⟨rfl, .inr (.inr (by simp [w2]))⟩, by simp [w2]⟩⟩
  refine bsplit_decide.2 ⟨fun hlt => by simp at hlt, fun _ => ?_⟩
  refine grow_c (sat_whole w') (by omega) fun s w8 h8 => ?_
  -- the rows
  refine loop_i (fun (x : SV × Int) v1 => (x.2 = 0 ∧ Sat (extsA x.1 [] * whole w') v1) ∨ (x.2 = 1 ∧ Sat (extsA x.1 l1 * whole w') v1) ∨ (x.2 = 2 ∧ Sat (extsA x.1 (l1 ++ l2) * whole w') v1)) (fun x _ => 2 - x.2.toNat) (.inl ⟨rfl, h8⟩) ?_
  rintro ⟨o, x⟩ v1 hx
  rcases hx with ⟨hx, hw⟩ | ⟨hx, hw⟩ | ⟨hx, hw⟩
  · simp only at hx; subst hx
    have kw : Keep w' v1 := Keep.whole hw.right
    refine bsplit_decide.2 ⟨fun _ => ⟨by omega, by simp, ?_⟩, fun hge => by simp at hge⟩
    rw [onP_some]
    refine ⟨s1, keep_cell kw hc1, exts_append hw (extsOn_le (keep_le kw) h1) (by simp; omega) fun s' v2 h2' => ⟨.inr (.inl ⟨w01, by simpa using h2'⟩), by simp [w1]⟩⟩
  · simp only at hx; subst hx
    have kw : Keep w' v1 := Keep.whole hw.right
    refine bsplit_decide.2 ⟨fun _ => ⟨by omega, by simp, ?_⟩, fun hge => by simp at hge⟩
    rw [onP_some]
    refine ⟨s2, keep_cell kw (hc2), exts_append hw (extsOn_le (keep_le kw) h2) (by omega) fun s' v2 h2' => ⟨.inr (.inr ⟨w12, h2'⟩), by simp [w2]⟩⟩
  · simp only at hx; subst hx
    refine bsplit_decide.2 ⟨fun hlt => by simp at hlt, fun _ => ?_⟩
    exact hk _ _ (Sat.frame hw h)
theorem joinE_ok {acc : List Ext} {e : Ext} (ha : ∀ x ∈ acc, okE x) (he : okE e) : ∀ x ∈ joinE acc e, okE x := by
  intro y hy
  cases acc with
  | nil => simp only [joinE, List.mem_singleton] at hy; subst hy; exact he
  | cons x r =>
    have hx := ha x (by simp)
    simp only [joinE] at hy
    unfold okE at hx he
    split at hy
    · rcases List.mem_cons.1 hy with h | h
      · subst h; unfold okE; simp only; omega
      · exact ha y (by simp [h])
    · rcases List.mem_cons.1 hy with h | h
      · subst h; exact he
      · exact ha y h
theorem foldl_joinE_ok {l acc : List Ext} (ha : ∀ x ∈ acc, okE x) (hl : ∀ x ∈ l, okE x) : ∀ x ∈ l.foldl joinE acc, okE x := by
  induction l generalizing acc with
  | nil => exact ha
  | cons e r ih => exact ih (joinE_ok ha (hl e (by simp))) fun x hx => hl x (by simp [hx])
theorem joinE_length (acc : List Ext) (e : Ext) : (joinE acc e).length ≤ acc.length + 1 := by
  cases acc with
  | nil => simp [joinE]
  | cons x r => simp only [joinE]; split <;> simp
theorem foldl_joinE_length (l acc : List Ext) : (l.foldl joinE acc).length ≤ acc.length + l.length := by
  induction l generalizing acc with
  | nil => simp
  | cons e r ih =>
    have := joinE_length acc e
    have := ih (joinE acc e)
    simp only [List.foldl_cons, List.length_cons]; omega
theorem joinM_ok {l : List Ext} (hl : ∀ x ∈ l, okE x) : ∀ x ∈ joinM l, okE x := by
  intro x hx
  unfold joinM at hx
  rw [List.mem_reverse] at hx
  exact foldl_joinE_ok (by simp) (fun y hy => hl y ((sortE_spec l).1.mem_iff.1 hy)) x hx
theorem joinM_length (l : List Ext) : (joinM l).length ≤ l.length := by
  unfold joinM
  have := foldl_joinE_length (sortE l) []
  rw [sortE_length] at this
  simpa using this
theorem joined_c {s : SV} {l : List Ext} {R : HP} {w : World} {K : SV → World → Prop} (h : Sat R w) (hl : extsOn (hp w) s l) (hn : l.length ≤ 2 ^ 30) (hok : ∀ x ∈ l, okE x) (hk : ∀ s' w', Sat (extsA s' (joinM l) * R) w' → K s' w') : c_ival_joined s w K := by
  refine ival_joined_go (clone_exts (sat_whole w) hl (by omega) fun s1 w2 h2 => sort_c h2 (by omega) fun w4 h4 => ?_)
  have hs1 := extsA_n h4
  have hsl := sortE_length l
  have hso : ∀ x ∈ sortE l, okE x := fun x hx => hok x ((sortE_spec l).1.mem_iff.1 hx)
  have hjm : joinM l = ((sortE l).foldl joinE []).reverse := rfl
  generalize sortE l = so at *
  refine loop_i (fun (x : SV × Int) w' => ∃ i : Nat, x.2 = i ∧ i ≤ so.length ∧ Sat (extsA x.1 ((so.take i).foldl joinE []).reverse * (extsA s1 so * whole w)) w') (fun x _ => so.length - x.2.toNat) ⟨0, rfl, by omega, ownS_nil h4 rfl rfl⟩ ?_
  rintro ⟨out, x⟩ w6 ⟨i, hx, hi, hw⟩
  simp only at hx; subst hx
  simp only at hw
  refine bsplit_decide.2 ⟨fun hlt => ?_, fun hge => ?_⟩
  · have hlt' : i < so.length := by simp at hlt; omega
    obtain ⟨ad, ha, hc1, hc2⟩ := (extsA_on hw.right.left).2 i hlt'
    refine ⟨by omega, by omega, onP_i ha ⟨(so[i].first, so[i].len), ⟨hc1, hc2⟩, box2 hw fun w11 k11 hw11 => ?_⟩⟩
    rw [withI_iff, withW_iff]
    have hwd := hw11.drew
    obtain ⟨acc, hacc⟩ : ∃ acc, (so.take i).foldl joinE [] = acc := ⟨_, rfl⟩
    have haok : ∀ x ∈ acc, okE x := hacc ▸ foldl_joinE_ok (by simp) fun x hx => hso x (List.mem_of_mem_take hx)
    have halen : acc.length ≤ i := by
      rw [← hacc]
      have := foldl_joinE_length (so.take i) []
      simp at this; omega
    have hnext : (so.take (i + 1)).foldl joinE [] = joinE acc so[i] := by
      rw [List.take_succ_eq_append_getElem hlt', List.foldl_append, hacc]; rfl
    rw [hacc] at hwd
    have hon : out.n = acc.length := by
      have := extsA_n hwd.right
      simpa using this
    have heo : okE so[i] := hso _ (List.getElem_mem hlt')
    generalize so[i] = e at *
    have e1 : IntKind.i64.wrap ((i : Int) + 1) = ((i + 1 : Nat) : Int) := by rw [wrap_of (by omega) (by omega)]; omega
    have en : IntKind.i64.wrap (((out.n : Nat) : Int) - 1) = (acc.length : Int) - 1 := by rw [hon, wrap_of (by omega) (by omega)]
    rw [en]
    have hb0 := (objA_cells hwd).1 0
    have hb1 := (objA_cells hwd).1 1
    generalize w6.heap.size = bx at hwd hb0 hb1 ⊢
    have push : ∀ acc', joinE acc e = e :: acc → acc' = acc → ∃ g : Int × Int, (w11.drew.cell? (⟨bx, 0, none⟩ : Addr) = some (.int .i64 g.1) ∧ w11.drew.cell? ((⟨bx, 0, none⟩ : Addr).add 1) = some (.int .i64 g.2)) ∧
        withW (w11.drew.alloc (.cells #[.int .i64 g.1, .int .i64 g.2] 56)) fun w38 => appendR out ⟨some ⟨w11.drew.heap.size, 0, none⟩, 1, 1⟩ 2 16 [.int .i64 0, .int .i64 0] 56 w38 fun s39 w40 =>
          (∃ i_1 : Nat, (IntKind.i64.wrap ((i : Int) + 1)) = i_1 ∧ i_1 ≤ so.length ∧ Sat (extsA ⟨s39.a, s39.n, s39.c⟩ ((so.take i_1).foldl joinE []).reverse * (extsA s1 so * whole w)) w40) ∧ so.length - (IntKind.i64.wrap ((i : Int) + 1)).toNat < so.length - (i : Int).toNat := by
      intro acc' hj _
      refine ⟨(e.first, e.len), ⟨hb0, by rw [add_mk]; exact hb1⟩, ?_⟩
      rw [withW_iff]
      have hwe := hwd.right.alloc (.cells #[.int .i64 e.first, .int .i64 e.len] 56)
      refine exts_push (x := e) (l := acc.reverse) hwe.right (hwe.cell 0) (hwe.cell 1) (by simp; omega) fun s' w' hs' => ⟨⟨i + 1, e1, by omega, ?_⟩, by rw [e1]; simp; omega⟩
      rw [hnext, hj, List.reverse_cons]
      exact hs'
    cases acc with
    | nil =>
      refine bsplit_decide.2 ⟨fun h0 => by simp at h0, fun _ => push [] rfl rfl⟩
    | cons x r =>
      have hxo := haok x (by simp)
      have hn1 : ((x :: r).length : Int) - 1 = (r.length : Nat) := by simp
      rw [hn1]
      have hcells : (x :: r).reverse.flatMap encE = r.reverse.flatMap encE ++ [.int .i64 x.first, .int .i64 x.len] := by
        rw [List.reverse_cons, List.flatMap_append]; rfl
      have hwd2 : Sat (extsA out (x :: r).reverse * (objA (some ⟨bx, 0, none⟩) [.int .i64 e.first, .int .i64 e.len] * (extsA s1 so * whole w))) w11.drew := hwd.eq (by ac_rfl)
      obtain ⟨ad2, ha2, hd1, hd2⟩ := (extsA_on hwd2.left).2 r.length (by simp)
      have hrl : (x :: r).reverse[r.length]'(by simp) = x := by simp
      rw [hrl] at hd1 hd2
      have hlt2 : ((r.length : Nat) : Int) < ((out.n : Nat) : Int) := by rw [hon]; simp; omega
      refine bsplit_decide.2 ⟨fun _ => ⟨e.first, hb0, by omega, hlt2, onP_i ha2 ⟨x.first, hd1, by omega, hlt2, onP_i ha2 ⟨x.len, hd2, bsplit_decide.2 ⟨fun hle => ?_, fun hgt => ?_⟩⟩⟩⟩, fun h0 => by omega⟩
      · unfold okE at hxo heo
        rw [wrap_of (by omega) (by omega)] at hle
        rw [withW_iff]
        have hwf := hwd2.drew
        refine ⟨fun w' => w' = w11.drew.drew, rfl, by omega, hlt2, onP_i ha2 ⟨x.len, fun w' e => e ▸ hd2, e.first, fun w' e => e ▸ hb0, e.len, fun w' e => by subst e; rw [add_mk]; exact hb1, by omega, hlt2, onP_i ha2 ⟨x.first, fun w' e => e ▸ hd1, by omega, hlt2, onP_i ha2 ?_⟩⟩⟩
        have ev : (if (IntKind.i64.wrap (IntKind.i64.wrap (e.first + e.len) - x.first) : Int) > x.len then IntKind.i64.wrap (IntKind.i64.wrap (e.first + e.len) - x.first) else x.len) = max x.len (e.first + e.len - x.first) := by
          rw [wrap_of (x := e.first + e.len) (by omega) (by omega), wrap_of (by omega) (by omega)]
          split <;> omega
        rw [ev]
        obtain ⟨b, hob, hst, hnew⟩ := ownS_store (pre := r.reverse.flatMap encE ++ [.int .i64 x.first]) (old := [.int .i64 x.len]) (post := []) (news := [.int .i64 (max x.len (e.first + e.len - x.first))]) hwf (by rw [hcells]; simp) rfl (by simp)
        rw [hob] at ha2; cases ha2
        have hpl : (r.reverse.flatMap encE ++ [Value.int .i64 x.first]).length = r.length * 2 + 1 := by rw [List.length_append, encE_length]; simp
        rw [hpl] at hst hnew
        simp only [storable, add_mk, Nat.add_zero] at hst
        simp only [storeAll, add_mk, Nat.add_zero] at hnew
        simp only [add_mk, Nat.zero_add, Int.toNat_natCast]
        refine ⟨hst, trivial, gen_w hnew fun w32 h32 => ⟨⟨i + 1, e1, by omega, ?_⟩, by rw [e1]; simp; omega⟩⟩
        rw [hnext]
        have hj : joinE (x :: r) e = ⟨x.first, max x.len (e.first + e.len - x.first)⟩ :: r := by simp only [joinE]; rw [if_pos hle]
        rw [hj]
        have hcells2 : (({ first := x.first, len := max x.len (e.first + e.len - x.first) } : Ext) :: r).reverse.flatMap encE = r.reverse.flatMap encE ++ [.int .i64 x.first] ++ [.int .i64 (max x.len (e.first + e.len - x.first))] ++ [] := by
          rw [List.reverse_cons, List.flatMap_append]; simp [encE]
        have : Sat (extsA out (({ first := x.first, len := max x.len (e.first + e.len - x.first) } : Ext) :: r).reverse * (objA (some ⟨bx, 0, none⟩) [.int .i64 e.first, .int .i64 e.len] * (extsA s1 so * whole w))) w32 := by
          unfold extsA
          rw [hcells2]
          exact h32
        exact (this.eq (by ac_rfl : _ = objA (some ⟨bx, 0, none⟩) [.int .i64 e.first, .int .i64 e.len] * (extsA out (({ first := x.first, len := max x.len (e.first + e.len - x.first) } : Ext) :: r).reverse * (extsA s1 so * whole w)))).right
      · unfold okE at hxo heo
        rw [wrap_of (by omega) (by omega)] at hgt
        exact push (x :: r) (by simp only [joinE]; rw [if_neg hgt]) rfl
  · obtain rfl : i = so.length := by simp at hge; omega
    rw [List.take_length] at hw
    rw [← hjm] at hw
    have : Sat (extsA s1 so * (extsA out (joinM l) * whole w)) w6 := hw.eq (by ac_rfl)
    exact hk _ _ (Sat.frame this.right h)
theorem set_add {p : Option Addr} {S : XSet} {s : SV} {l : List Ext} {R : HP} {w : World} {K : Int → World → Prop} (h : Sat (setA p S * R) w) (ok : SetOk S) (hl : extsOn (hp w) s l) (hn : S.l.length + l.length ≤ 2 ^ 30) (hk : ∀ w', Sat (setA p (S.add l).1 * R) w' → K (S.add l).2 w') : c_ival_Set_Add p s w K := by
  refine ival_Set_Add_go (all_c hl (by omega) fun w2 k2 => bsplit_iff.2 ⟨fun hm => ?_, fun hm => ?_⟩)
  · have : S.add l = (S, 1) := by unfold XSet.add; rw [if_pos (by simpa using hm)]
    rw [this] at hk; exact hk _ (k2.sat h)
  have hm' : ¬ l.all may = false := by simpa using hm
  have hln := hl.1
  refine bsplit_decide.2 ⟨fun h0 => ?_, fun h0 => ?_⟩
  · have : S.add l = (S, 0) := by unfold XSet.add; rw [if_neg hm', if_pos (by omega)]
    rw [this] at hk; exact hk _ (k2.sat h)
  have h0' : ¬ l.length = 0 := by omega
  obtain ⟨b, rfl⟩ := set_ptr h
  obtain ⟨s4, h2⟩ := setA_open (k2.sat h)
  refine bsplit_iff.2 ⟨fun e => (by cases e), fun _ => ?_⟩
  rw [onP_some, add_mk]
  refine ⟨s4, (objA_cells h2).1 1, ?_⟩
  rw [withW_iff]
  have h3 := h2.alloc (.cells #[.slice s4.a s4.n s4.c, .slice s.a s.n s.c] 153)
  have k3 := Keep.alloc w2 (.cells #[.slice s4.a s4.n s4.c, .slice s.a s.n s.c] 153)
  have hwh : ∀ x ∈ S.l ++ l, okE x := fun x hx => by
    rcases List.mem_append.1 hx with h' | h'
    · exact ok.1 x h'
    · exact okE_may (List.all_eq_true.1 (by simpa using hm') x h')
  refine concat_c (s1 := s4) (s2 := s) h3.right (h3.cell 0) (h3.cell 1) (extsA_on h3.right.right.left) (extsOn_le (keep_le (k2.trans k3)) hl) (by omega) fun s6 w7 h7 => ?_
  refine joined_c h7.right (extsA_on h7.left) (by simpa using hn) hwh fun s8 w9 h9 => ?_
  rw [onP_some]
  have h10 : Sat (objA (some ⟨b, 0, none⟩) [.int .i64 S.most, slv s4] * (extsA s8 (joinM (S.l ++ l)) * (extsA s4 S.l * R))) w9 := h9.eq (by ac_rfl)
  have hs8 := extsA_n h9
  refine ⟨S.most, (objA_cells h10).1 0, bsplit_decide.2 ⟨fun hbig => ?_, fun hbig => ?_⟩⟩
  · have : S.add l = (S, 7) := by unfold XSet.add; rw [if_neg hm', if_neg h0', if_pos (by omega)]
    rw [this] at hk
    exact hk _ (setA_close (s := s4) (h9.right))
  · have : S.add l = ({ S with l := joinM (S.l ++ l) }, 0) := by unfold XSet.add; rw [if_neg hm', if_neg h0', if_neg (by omega)]
    rw [this] at hk
    rw [onP_some, add_mk]
    refine objA_store h10 (by simp) fun w' h' => hk _ ?_
    have h'' : Sat (objA (some ⟨b, 0, none⟩) [.int .i64 S.most, slv s8] * (extsA s8 (joinM (S.l ++ l)) * (extsA s4 S.l * R))) w' := h'
    refine setA_close (S := { S with l := joinM (S.l ++ l) }) (s := s8) ?_
    exact (h''.eq (by ac_rfl : _ = extsA s4 S.l * (objA (some ⟨b, 0, none⟩) [.int .i64 S.most, slv s8] * (extsA s8 (joinM (S.l ++ l)) * R)))).right
theorem set_add_ok {S : XSet} {l : List Ext} (ok : SetOk S) (hn : S.l.length + l.length ≤ 2 ^ 30) : SetOk (S.add l).1 := by
  unfold XSet.add
  split
  · exact ok
  · rename_i hm
    split
    · exact ok
    · split
      · exact ok
      · refine ⟨joinM_ok fun x hx => ?_, ?_⟩
        · rcases List.mem_append.1 hx with h' | h'
          · exact ok.1 x h'
          · exact okE_may (List.all_eq_true.1 (by simpa using hm) x h')
        · have := joinM_length (S.l ++ l)
          simp only [List.length_append] at this
          simp only; omega
end Go.Proofs.YtbolgpjcmchfoaaGreat
