/- Contracts of reads, loads, dumps, versions; what every manager is. -/
import Derived.Test.YtbolgpjcmchfoaaGreatC
import Derived.Test.YtbolgpjcmchfoaaGreatW
/- Contracts: what a block was at a time; what was written of it. -/
namespace Go.Proofs.YtbolgpjcmchfoaaGreat
open Go Go.Vc Go.Sl Go.Mo
theorem clone_row {s : SV} {l : List UInt8} {R : HP} {w : World} {K : SV → World → Prop} (h : Sat R w) (hl : bytesOn (hp w) s l) (hc : l.length ≤ 2 ^ 40) (hk : ∀ s' w', Sat (byteRow s' l * R) w' → K s' w') : c_slices_Clone_byte_byte s w K :=
  clone_bytes h hl hc fun s' w' _ h' => hk s' w' h'
theorem bytesOn_none {h : Heap} : bytesOn h ⟨none, 0, 0⟩ [] := ⟨rfl, fun _ => rfl, fun ad e => by cases e⟩
theorem putsOn_none {h : Heap} : putsOn h ⟨none, 0, 0⟩ [] := ⟨rfl, fun i hi => by simp at hi⟩
theorem buf_get {p : Option Addr} {B : Buf} {k : Int} {R : HP} {w : World} {K : SV × Bool → World → Prop} (h : Sat (bufA p B * R) w) (hd : ∀ q ∈ B.data, q.2.length ≤ 2 ^ 40)
    (hk : ∀ s w', Sat (byteRow s ((lkp B.data k).getD []) * whole w) w' → K (s, (lkp B.data k).isSome) w') : c_wbuf_Buf_Get p k w K := by
  obtain ⟨b, rfl⟩ := buf_ptr h
  obtain ⟨r, h1⟩ := bufA_open h
  refine wbuf_Buf_Get_go (bsplit_iff.2 ⟨fun e => (by cases e), fun _ => ?_⟩)
  rw [onP_some, add_mk]
  refine ⟨some r, (objA_cells h1).1 2, rfl, ?_⟩
  rw [onM_some]
  obtain ⟨es, hcl, _, hf⟩ := slmapA_get h1.right
  rcases hf k with ⟨e1, e2⟩ | ⟨s, d, e1, e2, e3⟩
  · refine ⟨es, hcl, ⟨none, 0, 0⟩, by rw [e2]; rfl, clone_row (sat_whole w) bytesOn_none (by simp) fun s' w' h' => ?_⟩
    have := hk s' w' (by rw [e1]; exact h')
    rw [e1] at this; rw [e2]; exact this
  · refine ⟨es, hcl, s, by rw [e2]; rfl, clone_row (sat_whole w) (byteRow_on e3) (hd _ (lkp_mem e1)) fun s' w' h' => ?_⟩
    have := hk s' w' (by rw [e1]; exact h')
    rw [e1] at this; rw [e2]; exact this
/-- Where a block's versions lie. -/
theorem vers_at {b r : Nat} {M : XMap} {R : HP} {w : World} (h : Sat (objA (some ⟨b, 0, none⟩) [.int .i64 M.blocks, .map (some r), .int .i64 M.last] * (slmapA putsA r M.vers * R)) w) (lba : Int) :
    ∃ es, (∃ cl, mapAt w r .i64 es cl) ∧ ∃ s : SV, (findE es lba).getD (.slice none 0 0) = .slice s.a s.n s.c ∧ putsOn (hp w) s (versOf M.vers lba) := by
  obtain ⟨es, hcl, _, hf⟩ := slmapA_get h.right
  refine ⟨es, hcl, ?_⟩
  rcases hf lba with ⟨e1, e2⟩ | ⟨s, d, e1, e2, e3⟩
  · exact ⟨⟨none, 0, 0⟩, by rw [e2]; rfl, by unfold versOf; rw [e1]; exact putsOn_none⟩
  · exact ⟨s, by rw [e2]; rfl, by unfold versOf; rw [e1]; exact putsA_on e3⟩
theorem upTo_eq (l : List Put) (t : Int) : upTo l t = (l.take (upTo l t).length).reverse := by
  have h : upTo l t <:+ l.reverse := List.dropWhile_suffix _
  have h2 : (upTo l t).reverse <+: l := by have := List.reverse_prefix.2 h; rwa [List.reverse_reverse] at this
  have h3 := List.prefix_iff_eq_take.1 h2
  rw [List.length_reverse] at h3
  rw [← h3, List.reverse_reverse]
theorem upTo_head {l : List Put} {t : Int} {v : Put} {r : List Put} (h : upTo l t = v :: r) : ∃ hi : r.length < l.length, l[r.length] = v := by
  have h1 := upTo_eq l t
  have h2 := upTo_length_le l t
  rw [h] at h1 h2
  simp only [List.length_cons] at h1 h2
  refine ⟨by omega, ?_⟩
  rw [List.take_succ_eq_append_getElem (by omega), List.reverse_append] at h1
  simp only [List.reverse_cons, List.reverse_nil, List.nil_append, List.singleton_append, List.cons.injEq] at h1
  exact h1.1.symm
theorem at_c {p : Option Addr} {M : XMap} {lba t : Int} {R : HP} {w : World} {K : Int → World → Prop} (h : Sat (xmapA p M * R) w) (hn : (versOf M.vers lba).length ≤ 2 ^ 40) (hk : K (((upTo (versOf M.vers lba) t).length : Int) - 1) w) : c_extmap_Map_at p lba t w K := by
  obtain ⟨b, rfl⟩ := xmap_ptr h
  obtain ⟨r, h1⟩ := xmapA_open h
  obtain ⟨es, hcl, s, hs, hl⟩ := vers_at h1 lba
  refine extmap_Map_at_go ?_
  unfold f_extmap_Map_at
  rw [onP_some, add_mk]
  refine ⟨some r, (objA_cells h1).1 1, rfl, ?_⟩
  rw [onM_some]
  refine ⟨es, hcl, s, hs, ?_⟩
  rw [withI_iff]
  generalize versOf M.vers lba = l at hn hk hl
  have hsn := hl.1
  refine loop_i (fun (x : Int) w' => ∃ i : Nat, x = (i : Int) - 1 ∧ i ≤ l.length ∧ w' = w ∧ upTo (l.take i) t = upTo l t) (fun x _ => (x + 1).toNat) ⟨l.length, by rw [hsn, wrap_of (by omega) (by omega)], Nat.le_refl _, rfl, by rw [List.take_length]⟩ ?_
  rintro x w1 ⟨i, rfl, hi, rfl, hu⟩
  refine bsplit_decide.2 ⟨fun h0 => ?_, fun h0 => ?_⟩
  · obtain ⟨j, rfl⟩ : ∃ j, i = j + 1 := ⟨i - 1, by omega⟩
    have hj : j < l.length := by omega
    obtain ⟨ad, d, ha, hc1, _, _⟩ := hl.2 j hj
    have e1 : ((j + 1 : Nat) : Int) - 1 = (j : Int) := by omega
    rw [e1]
    have htk : l.take (j + 1) = l.take j ++ [l[j]] := List.take_succ_eq_append_getElem hj
    rw [htk, upTo_snoc] at hu
    refine ⟨by omega, by omega, onP_i ha ⟨l[j].lba, hc1, bsplit_decide.2 ⟨fun hle => ?_, fun hle => ?_⟩⟩⟩
    · rw [if_neg (by omega)] at hu
      rw [← hu] at hk
      simpa [Nat.min_eq_left (Nat.le_of_lt hj)] using hk
    · rw [if_pos (by omega)] at hu
      rw [wrap_of (by omega) (by omega)]
      exact ⟨⟨j, rfl, by omega, rfl, hu⟩, by omega⟩
  · obtain rfl : i = 0 := by omega
    have : upTo (l.take 0) t = [] := by simp [upTo]
    rw [this] at hu
    rw [← hu] at hk
    simpa using hk
theorem inB_block {M : XMap} {b r : Nat} {lba : Int} {R : HP} {w : World} {K : Bool → World → Prop} (h : Sat (objA (some ⟨b, 0, none⟩) [.int .i64 M.blocks, .map (some r), .int .i64 M.last] * R) w) (hk : K (inB M lba) w) : c_extmap_Map_block (some ⟨b, 0, none⟩) lba w K :=
  block_some ((objA_cells h).1 0) hk
theorem zeros_row : (zrow [Value.int .u8 0] (40 : Int).toNat) = bytesV zeros := by kernel_rfl
theorem get_c {p : Option Addr} {M : XMap} {lba t : Int} {R : HP} {w : World} {K : SV × Int → World → Prop} (h : Sat (xmapA p M * R) w) (hn : (versOf M.vers lba).length ≤ 2 ^ 40) (hd : ∀ x ∈ versOf M.vers lba, x.data.length ≤ 2 ^ 40) (hin : inB M lba = true)
    (hk : ∀ s w', Sat (byteRow s (M.get lba t) * whole w) w' → K (s, timeAt (versOf M.vers lba) t) w') : c_extmap_Map_Get p lba t w K := by
  obtain ⟨b, rfl⟩ := xmap_ptr h
  obtain ⟨r, h1⟩ := xmapA_open h
  refine extmap_Map_Get_go ?_
  unfold f_extmap_Map_Get
  refine inB_block h1 ?_
  rw [hin]
  refine bsplit_iff.2 ⟨fun e => (by cases e), fun _ => ?_⟩
  refine at_c h hn ?_
  obtain ⟨es, hcl, s, hs, hl⟩ := vers_at h1 lba
  unfold XMap.get valAt timeAt at hk
  cases hu : upTo (versOf M.vers lba) t with
  | nil =>
    rw [hu] at hk
    refine bsplit_decide.2 ⟨fun _ => ?_, fun e => absurd (by simp) e⟩
    refine ⟨by omega, by omega, by omega, by omega, ?_⟩
    rw [withW_iff]
    refine hk _ _ ?_
    have h2 := (sat_whole w).alloc (.cells (zrow [.int .u8 0] (40 : Int).toNat).toArray 5)
    rw [zeros_row] at h2 ⊢
    exact ownS_mk (sp := []) (by rw [List.append_nil]; exact h2) (by simp [bytesV, zeros]) (Nat.le_refl _) (by simp [bytesV, zeros])
  | cons v q =>
    rw [hu] at hk
    obtain ⟨hi, hv⟩ := upTo_head hu
    refine bsplit_decide.2 ⟨fun e => absurd e (by simp), fun _ => ?_⟩
    rw [onP_some, add_mk]
    refine ⟨some r, (objA_cells h1).1 1, rfl, ?_⟩
    rw [onM_some]
    have e1 : (((v :: q).length : Nat) : Int) - 1 = (q.length : Int) := by simp
    rw [e1]
    refine ⟨es, hcl, s, hs, by omega, by have := hl.1; omega, ?_⟩
    obtain ⟨ad, d, ha, hc1, hc2, hd4⟩ := hl.2 q.length hi
    rw [hv] at hc1 hd4
    refine onP_i ha ⟨(v.lba, d), ⟨hc1, hc2⟩, ?_⟩
    refine box2 (sat_whole w) fun w15 k15 h15 => ?_
    rw [withW_iff]
    have hc := objA_cells h15
    have hdl : v.data.length ≤ 2 ^ 40 := hd _ (upTo_mem (by rw [hu]; simp))
    refine ⟨fun w' => Keep w15 w', Keep.drew _, d, fun w' k' => by rw [add_mk]; exact keep_cell k' (hc.1 1), v.lba, fun w' k' => keep_cell k' (hc.1 0), ?_⟩
    refine clone_row (sat_whole w15.drew) (bytesOn_le (keep_le (k15.trans (Keep.drew _))) hd4) hdl fun s' w' h' => ⟨(Keep.drew _).trans (Keep.whole h'.right), ?_⟩
    have kk : Keep w w' := k15.trans ((Keep.drew _).trans (Keep.whole h'.right))
    refine hk s' w' ?_
    exact Sat.frame (A := byteRow s' v.data) (w := w15.drew) h' ((k15.trans (Keep.drew _)).sat (sat_whole w))
end Go.Proofs.YtbolgpjcmchfoaaGreat
/- Contracts: an extent's blocks at a time; a read of a view. -/
namespace Go.Proofs.YtbolgpjcmchfoaaGreat
open Go Go.Vc Go.Sl Go.Mo
theorem within_c {p : Option Addr} {M : XMap} {e : Ext} {R : HP} {w : World} {K : Bool → World → Prop} (h : Sat (xmapA p M * R) w) (hb : 1 ≤ M.blocks ∧ M.blocks ≤ 1048576) (hk : ∀ w', Keep w w' → K (within M e) w') : c_extmap_Map_within p e.first e.len w K := by
  obtain ⟨b, rfl⟩ := xmap_ptr h
  obtain ⟨r, h1⟩ := xmapA_open h
  refine extmap_Map_within_go ?_
  unfold f_extmap_Map_within
  rw [withW_iff, withW_iff]
  have h2 := (sat_whole w).alloc (.cells #[.int .i64 e.first, .int .i64 e.len] 56)
  have k2 : Keep w (w.alloc (.cells #[.int .i64 e.first, .int .i64 e.len] 56)).drew := (Keep.alloc _ _).trans (Keep.drew _)
  have c0 := h2.drew.cell 0
  have c1 := h2.drew.cell 1
  have hbl : (w.alloc (.cells #[.int .i64 e.first, .int .i64 e.len] 56)).drew.cell? ⟨b, 0, none⟩ = some (.int .i64 M.blocks) := keep_cell k2 ((objA_cells h1).1 0)
  have hk' := hk _ k2
  generalize (w.alloc (.cells #[.int .i64 e.first, .int .i64 e.len] 56)).drew = w3 at c0 c1 hbl hk' ⊢
  unfold within at hk'
  refine ⟨fun w' => w' = w3, rfl, e.first, fun w' e' => e' ▸ c0, bsplit_decide.2 ⟨fun h0 => ⟨e.len, fun w' e' => by subst e'; rw [add_mk]; exact c1, bsplit_decide.2 ⟨fun h1 => ⟨e.len, fun w' e' => by subst e'; rw [add_mk]; exact c1, ?_⟩, fun h1 => ?_⟩⟩, fun h0 => ?_⟩⟩
  · refine blocks_some hbl ⟨rfl, bsplit_decide.2 ⟨fun h2 => ⟨e.first, fun w' e' => e' ▸ c0, e.len, fun w' e' => by subst e'; rw [add_mk]; exact c1, blocks_some hbl ⟨rfl, ?_⟩⟩, fun h2 => ?_⟩⟩
    · rw [wrap_of (by omega) (by omega)]
      simpa [h0, h1, h2] using hk'
    · simpa [h0, h1, h2] using hk'
  · simpa [h0, h1] using hk'
  · simpa [h0] using hk'
theorem vers_len {B : Nat} {M : XMap} (ok : XOk B M) (k : Int) : (versOf M.vers k).length ≤ B ∧ ∀ x ∈ versOf M.vers k, x.data.length = 40 := by
  unfold versOf
  cases e : lkp M.vers k with
  | none => simp
  | some v => obtain ⟨_, _, a, b⟩ := ok.2.2 _ (lkp_mem e); exact ⟨a, b⟩
theorem get_length {B : Nat} {M : XMap} (ok : XOk B M) (k t : Int) : (M.get k t).length = 40 := valAt_length t (vers_len ok k).2
theorem flatMap_len {f : Int → List UInt8} : ∀ (l : List Int), (∀ k ∈ l, (f k).length = 40) → (l.flatMap f).length = l.length * 40
  | [], _ => rfl
  | k :: r, h => by
    rw [List.flatMap_cons, List.length_append, h k (by simp), flatMap_len r fun j hj => h j (by simp [hj]), List.length_cons]; omega
theorem blocksOf_length (e : Ext) : (blocksOf e).length = e.len.toNat := by simp [blocksOf]
theorem blocksOf_get {e : Ext} {i : Nat} (hi : i < (blocksOf e).length) : (blocksOf e)[i] = e.first + i := by simp [blocksOf]
theorem within_in {M : XMap} {e : Ext} (h : within M e = true) {i : Nat} (hi : (i : Int) < e.len) : inB M (e.first + i) = true := by
  unfold within at h
  simp only [Bool.and_eq_true, decide_eq_true_eq] at h
  simp [inB]; omega
theorem bytesV_append (a b : List UInt8) : bytesV (a ++ b) = bytesV a ++ bytesV b := by simp [bytesV]
theorem bytesV_length (a : List UInt8) : (bytesV a).length = a.length := by simp [bytesV]
theorem byteRow_append {s b : SV} {l m : List UInt8} {e : Nat} {R : HP} {w : World} {K : SV → World → Prop} (h : Sat (byteRow s l * R) w) (hb : bytesOn (hp w) b m) (hlen : l.length + m.length ≤ 2 ^ 36)
    (hk : ∀ s' w', Sat (byteRow s' (l ++ m) * R) w' → K s' w') : appendR s b 1 1 [.int .u8 0] e w K := by
  have hn : s.n = l.length := by have := ownS_length h; rw [bytesV_length] at this; omega
  refine append_own (news := bytesV m) h (by rw [bytesV_length, hb.1]; omega) (all_one_bytes m) (rowOn_cells hb.2) (fun hno => ?_) (by rw [hn, hb.1]; omega) (by omega) rfl fun s' w' _ hw' => hk s' w' (by unfold byteRow; rw [bytesV_append]; exact hw')
  have := hb.2.1 hno
  have h2 := bytesV_length m
  rw [this] at h2
  have := hb.1
  simp at h2; omega
theorem range_c {B : Nat} {p : Option Addr} {M : XMap} {e : Ext} {t : Int} {R : HP} {w : World} {K : SV × Int → World → Prop} (h : Sat (xmapA p M * R) w) (ok : XOk B M) (hB : B ≤ 2 ^ 31)
    (hk : ∀ s w', Sat (byteRow s (if within M e then M.range e t else []) * whole w) w' → K (s, if within M e then 0 else 2) w') : c_extmap_Map_Range p e.first e.len t w K := by
  refine extmap_Map_Range_go ?_
  unfold f_extmap_Map_Range
  rw [withW_iff]
  have h2 := (sat_whole w).alloc (.cells #[.int .i64 e.first, .int .i64 e.len] 56)
  have c0 := h2.cell 0
  have c1 := h2.cell 1
  have k2 : Keep w (w.alloc (.cells #[.int .i64 e.first, .int .i64 e.len] 56)) := Keep.alloc _ _
  generalize w.alloc (.cells #[.int .i64 e.first, .int .i64 e.len] 56) = w1 at c0 c1 h2 k2 ⊢
  generalize w.heap.size = eb at c0 c1 h2 ⊢
  refine ⟨(e.first, e.len), ⟨c0, by rw [add_mk]; exact c1⟩, ?_⟩
  refine within_c (k2.sat h) ok.1 fun w4 k4 => ?_
  cases hin : within M e with
  | false =>
    rw [hin] at hk
    exact bsplit_iff.2 ⟨fun _ => hk _ _ (ownS_nil ((k2.trans k4).sat (sat_whole w)) rfl rfl), fun e => (by cases e)⟩
  | true =>
    rw [hin] at hk
    simp only [if_true] at hk
    refine bsplit_iff.2 ⟨fun e => (by cases e), fun _ => ⟨e.len, by rw [add_mk]; exact keep_cell k4 c1, ?_⟩⟩
    have hlen : 1 ≤ e.len ∧ e.len ≤ M.blocks ∧ 0 ≤ e.first ∧ e.first ≤ M.blocks - e.len := by
      unfold within at hin
      simp only [Bool.and_eq_true, decide_eq_true_eq] at hin
      omega
    have hb := ok.1
    have hbl := blocksOf_length e
    have h4 := k4.sat h2
    refine loop_i (fun (x : SV × Int) w' => ∃ i : Nat, x.2 = i ∧ i ≤ (blocksOf e).length ∧ Sat (byteRow x.1 (((blocksOf e).take i).flatMap fun k => M.get k t) * (pt eb (.cells #[.int .i64 e.first, .int .i64 e.len] 56) * whole w)) w') (fun x _ => (e.len - x.2).toNat)
      ⟨0, rfl, by omega, ownS_nil h4 rfl rfl⟩ ?_
    rintro ⟨s, x⟩ w7 ⟨i, hx, hi, hw⟩
    simp only at hx; subst hx
    dsimp only at hw ⊢
    refine bsplit_decide.2 ⟨fun hlt => ?_, fun hge => ?_⟩
    · have hi' : i < (blocksOf e).length := by omega
      refine ⟨e.first, hw.right.cell 0, ?_⟩
      rw [wrap_of (x := e.first + i) (by omega) (by omega)]
      have hv := vers_len ok (e.first + i)
      refine get_c ((Keep.whole hw.right.right).sat h) (by omega) (fun x hx => by rw [hv.2 x hx]; omega) (within_in hin hlt) fun s10 w11 h11 => ?_
      have h11' : Sat (byteRow s (((blocksOf e).take i).flatMap fun k => M.get k t) * (byteRow s10 (M.get (e.first + i) t) * (pt eb (.cells #[.int .i64 e.first, .int .i64 e.len] 56) * whole w))) w11 := (Sat.frame h11 hw).eq (by ac_rfl)
      have hgl := get_length ok (e.first + i) t
      have hfl := flatMap_len (f := fun k => M.get k t) ((blocksOf e).take i) fun k _ => get_length ok k t
      refine byteRow_append h11' (byteRow_on h11'.right.left) (by rw [hfl, hgl, List.length_take]; omega) fun s12 w13 h13 => ?_
      have e1 : IntKind.i64.wrap ((i : Int) + 1) = ((i + 1 : Nat) : Int) := by rw [wrap_of (by omega) (by omega)]; omega
      refine ⟨⟨i + 1, e1, by omega, ?_⟩, by rw [e1]; omega⟩
      rw [List.take_succ_eq_append_getElem hi', List.flatMap_append, blocksOf_get hi']
      simp only [List.flatMap_cons, List.flatMap_nil, List.append_nil]
      exact (h13.eq (by ac_rfl : _ = byteRow s10 (M.get (e.first + i) t) * (byteRow s12 ((((blocksOf e).take i).flatMap fun k => M.get k t) ++ M.get (e.first + i) t) * (pt eb (.cells #[.int .i64 e.first, .int .i64 e.len] 56) * whole w)))).right
    · obtain rfl : i = (blocksOf e).length := by omega
      rw [List.take_length] at hw
      refine hk _ _ ?_
      unfold XMap.range
      exact (hw.eq (by ac_rfl : _ = pt eb (.cells #[.int .i64 e.first, .int .i64 e.len] 56) * (byteRow s ((blocksOf e).flatMap fun k => M.get k t) * whole w))).right
/-! ### What was read -/
theorem readsA_open {s : SV} {l : List Rd} {R : HP} {w : World} (h : Sat (readsA s l * R) w) : ∃ xs : List (SV × Rd), xs.map Prod.snd = l ∧ Sat (ownS 3 s (xs.flatMap fun x => [.int .i64 x.2.lba, slv x.1, .bool x.2.own]) * (all xs (fun x => byteRow x.1 x.2.data) * R)) w := by
  simp only [readsA, ex_mul, mul_assoc', sat_ex, sat_lift] at h
  exact h
theorem readsA_close {s : SV} {xs : List (SV × Rd)} {R : HP} {w : World} (h : Sat (ownS 3 s (xs.flatMap fun x => [.int .i64 x.2.lba, slv x.1, .bool x.2.own]) * (all xs (fun x => byteRow x.1 x.2.data) * R)) w) : Sat (readsA s (xs.map Prod.snd) * R) w := by
  simp only [readsA, ex_mul, mul_assoc', sat_ex, sat_lift]
  exact ⟨xs, rfl, h⟩
theorem flat3_length {α : Type} (f g k : α → Value) (xs : List α) : (xs.flatMap fun x => [f x, g x, k x]).length = xs.length * 3 := by
  induction xs with
  | nil => rfl
  | cons x r ih => simp only [List.flatMap_cons, List.length_append, ih, List.length_cons, List.length_nil]; omega
theorem readsA_n {s : SV} {l : List Rd} {R : HP} {w : World} (h0 : Sat (readsA s l * R) w) : s.n = l.length := by
  obtain ⟨xs, rfl, h⟩ := readsA_open h0
  have := ownS_length h
  rw [flat3_length] at this
  simp; omega
theorem reads_push {s d : SV} {l : List Rd} {x : Rd} {e bk : Nat} {R : HP} {w : World} {K : SV → World → Prop} (h0 : Sat (readsA s l * (byteRow d x.data * R)) w)
    (hc : w.cell? ⟨bk, 0, none⟩ = some (.int .i64 x.lba) ∧ w.cell? ⟨bk, 1, none⟩ = some (slv d) ∧ w.cell? ⟨bk, 2, none⟩ = some (.bool x.own)) (hlen : l.length + 1 ≤ 2 ^ 36)
    (hk : ∀ s' w', Sat (readsA s' (l ++ [x]) * R) w' → K s' w') : appendR s ⟨some ⟨bk, 0, none⟩, 1, 1⟩ 3 40 [.int .i64 0, .slice none 0 0, .bool false] e w K := by
  have hn := readsA_n h0
  obtain ⟨xs, rfl, h⟩ := readsA_open h0
  refine append_own (news := [.int .i64 x.lba, slv d, .bool x.own]) h rfl rfl (fun ad had => ?_) (fun hno => by cases hno) (by rw [hn]; simp at hlen ⊢; omega) (by omega) rfl fun s' w' hs' hw' => ?_
  · cases had
    exact ⟨hc.1, hc.2.1, hc.2.2⟩
  · refine hk s' w' ?_
    have e : xs.map Prod.snd ++ [x] = (xs ++ [(d, x)]).map Prod.snd := by simp
    rw [e]
    refine readsA_close ?_
    rw [all_append]
    simp only [List.flatMap_append, List.flatMap_cons, List.flatMap_nil, List.append_nil, all, mul_one']
    exact hw'.eq (by ac_rfl)
theorem add_fail {S : XSet} {l : List Ext} (h : (S.add l).2 ≠ 0) : (S.add l).1 = S := by
  unfold XSet.add at h ⊢
  repeat' split
  all_goals first | rfl | (rename_i h1 h2 h3; simp [h1, h2, h3] at h)
end Go.Proofs.YtbolgpjcmchfoaaGreat
/- Contracts: a read of a view. -/
namespace Go.Proofs.YtbolgpjcmchfoaaGreat
open Go Go.Vc Go.Sl Go.Mo
/-- The blocks so far as the one that reads sees them, the others as they were committed. -/
def mixedB (M : XMap) (B : Buf) (t : Int) (ks : List Int) (i : Nat) : List UInt8 := ((ks.take i).flatMap fun k => (seenB M B t k).data) ++ ((ks.drop i).flatMap fun k => M.get k t)
theorem seen_len {n : Nat} {M : XMap} {B : Buf} {t k : Int} (ok : XOk n M) (hb : ∀ q ∈ B.data, q.2.length = 40) : (seenB M B t k).data.length = 40 := by
  unfold seenB
  split
  · rename_i d e; exact hb _ (lkp_mem e)
  · exact get_length ok k t
theorem sub_spot {b k c n m : Nat} (h : k < c) : (⟨sub? (some ⟨b, 0, none⟩) k c 1, n, m⟩ : SV) = ⟨some ⟨b, k, none⟩, n, m⟩ := by
  unfold sub?
  rw [if_neg (by omega)]
  simp
theorem view_read {n : Nat} {p mp bp : Option Addr} {V : View} {M : XMap} {B : Buf} {e : Ext} {R : HP} {w : World} {K : SV × Int → World → Prop} (h : Sat (viewA p mp bp V * (xmapA mp M * (bufA bp B * R))) w) (ok : XOk n M) (hn : n ≤ 2 ^ 30)
    (hb : ∀ q ∈ B.data, q.2.length = 40) (okS : SetOk V.set) (hS : V.set.l.length ≤ 2 ^ 29) (hr : V.reads.length ≤ 2 ^ 30)
    (hk : ∀ s w', Sat (byteRow s (V.read M B e).2.1 * (viewA p mp bp (V.read M B e).1 * (xmapA mp M * (bufA bp B * R)))) w' → K (s, (V.read M B e).2.2) w') : c_rset_View_Read p e.first e.len w K := by
  obtain ⟨a, rfl⟩ := view_ptr h
  obtain ⟨mb, rfl⟩ := xmap_ptr h.right
  refine rset_View_Read_go ?_
  unfold f_rset_View_Read
  rw [withW_iff]
  have h2 := h.alloc (.cells #[.int .i64 e.first, .int .i64 e.len] 56)
  have c0 := h2.cell 0
  have c1 := h2.cell 1
  generalize w.alloc (.cells #[.int .i64 e.first, .int .i64 e.len] 56) = w1 at c0 c1 h2 ⊢
  generalize w.heap.size = eb at c0 c1 h2 ⊢
  clear h
  have nores : ∀ (w' : World) (c : Int), V.read M B e = (V, ([], c)) → Sat (viewA (some ⟨a, 0, none⟩) (some ⟨mb, 0, none⟩) bp V * (xmapA (some ⟨mb, 0, none⟩) M * (bufA bp B * R))) w' → K (⟨none, 0, 0⟩, c) w' := fun w' c hv h' => by
    have := hk ⟨none, 0, 0⟩ w'
    rw [hv] at this
    exact this (ownS_nil h' rfl rfl)
  refine ⟨e.len, by rw [add_mk]; exact c1, bsplit_decide.2 ⟨fun hl => nores _ _ (by unfold View.read; rw [if_pos (.inl hl)]) h2.right, fun hl1 => ⟨e.len, by rw [add_mk]; exact c1, bsplit_decide.2 ⟨fun hl => nores _ _ (by unfold View.read; rw [if_pos (.inr hl)]) h2.right, fun hl2 => ?_⟩⟩⟩⟩
  obtain ⟨sp, rs, h3⟩ := viewA_open h2.right
  have hv3 := (objA_cells h3).1
  refine bsplit_iff.2 ⟨fun e => (by cases e), fun _ => ?_⟩
  rw [onP_some]
  refine ⟨_, hv3 0, bsplit_iff.2 ⟨fun e => (by cases e), fun _ => ?_⟩⟩
  rw [withW_iff]
  refine ⟨fun w' => Keep w1 w', Keep.drew _, ?_⟩
  rw [onP_some]
  refine ⟨_, fun w' k => keep_cell k (hv3 0), (e.first, e.len), fun w' k => ⟨keep_cell k c0, by rw [add_mk]; exact keep_cell k c1⟩, ?_⟩
  rw [onP_some]
  refine ⟨V.at_, fun w' k => by rw [add_mk]; exact keep_cell k (hv3 2), ?_⟩
  refine range_c (h2.drew.right.right.left.eq (mul_one' _).symm) ok (by omega) fun so w17 h17 => ?_
  have k17 : Keep w1 w17 := (Keep.drew _).trans (Keep.whole h17.right)
  refine ⟨k17, ?_⟩
  cases hin : within M e with
  | false =>
    exact bsplit_iff.2 ⟨fun _ => nores _ _ (by unfold View.read; rw [if_neg (by omega), if_pos hin]; rfl) (k17.sat h2.right), fun e => (by cases e)⟩
  | true =>
    rw [hin] at h17
    simp only [if_true] at h17 ⊢
    refine bsplit_iff.2 ⟨fun e => (by cases e), fun _ => ?_⟩
    rw [withW_iff]
    have h2' : Sat (pt eb (.cells #[.int .i64 e.first, .int .i64 e.len] 56) * (objA (some ⟨a, 0, none⟩) [.pointer (some ⟨mb, 0, none⟩), .pointer bp, .int .i64 V.at_, .pointer sp, slv rs] * (setA sp V.set * (readsA rs V.reads * (xmapA (some ⟨mb, 0, none⟩) M * (bufA bp B * R)))))) w1 := by
      have : Sat (objA (some ⟨a, 0, none⟩) [.pointer (some ⟨mb, 0, none⟩), .pointer bp, .int .i64 V.at_, .pointer sp, slv rs] * (setA sp V.set * (readsA rs V.reads * (pt eb (.cells #[.int .i64 e.first, .int .i64 e.len] 56) * (xmapA (some ⟨mb, 0, none⟩) M * (bufA bp B * R)))))) w1 := by
        have h4 : Sat (viewA (some ⟨a, 0, none⟩) (some ⟨mb, 0, none⟩) bp V * (pt eb (.cells #[.int .i64 e.first, .int .i64 e.len] 56) * (xmapA (some ⟨mb, 0, none⟩) M * (bufA bp B * R)))) w1 := h2.eq (by ac_rfl)
        obtain ⟨sp', rs', h5⟩ := viewA_open h4
        have e5 := (objA_cells h5).1
        have e1 := (e5 3).symm.trans (hv3 3)
        have e2 := (e5 4).symm.trans (hv3 4)
        simp only [List.getElem?_cons_succ, List.getElem?_cons_zero, Option.some.injEq, Value.pointer.injEq, slv, Value.slice.injEq] at e1 e2
        subst e1
        obtain rfl : rs' = rs := by obtain ⟨x1, x2, x3⟩ := e2; cases rs'; cases rs; simp_all
        exact h5
      exact this.eq (by ac_rfl)
    have h18 : Sat (byteRow so (M.range e V.at_) * (pt eb (.cells #[.int .i64 e.first, .int .i64 e.len] 56) * (objA (some ⟨a, 0, none⟩) [.pointer (some ⟨mb, 0, none⟩), .pointer bp, .int .i64 V.at_, .pointer sp, slv rs] * (setA sp V.set * (readsA rs V.reads * (xmapA (some ⟨mb, 0, none⟩) M * (bufA bp B * R))))))) w17.drew :=
      (Sat.frame h17 h2'.drew).drew
    have cv : ∀ {A : HP} {w' : World}, Sat (pt eb (.cells #[.int .i64 e.first, .int .i64 e.len] 56) * (objA (some ⟨a, 0, none⟩) [.pointer (some ⟨mb, 0, none⟩), .pointer bp, .int .i64 V.at_, .pointer sp, slv rs] * A)) w' →
        w'.cell? ⟨a, 3, none⟩ = some (.pointer sp) ∧ w'.cell? ⟨eb, 0, none⟩ = some (.int .i64 e.first) ∧ w'.cell? ⟨eb, 1, none⟩ = some (.int .i64 e.len) := fun hh => ⟨(objA_cells hh.right).1 3, hh.cell 0, hh.cell 1⟩
    refine ⟨fun w' => w'.cell? ⟨a, 3, none⟩ = some (.pointer sp) ∧ w'.cell? ⟨eb, 0, none⟩ = some (.int .i64 e.first) ∧ w'.cell? ⟨eb, 1, none⟩ = some (.int .i64 e.len), cv h18.right, ?_⟩
    rw [onP_some]
    refine ⟨sp, fun w' k => by rw [add_mk]; exact k.1, (e.first, e.len), fun w' k => ⟨k.2.1, by rw [add_mk]; exact k.2.2⟩, ?_⟩
    rw [withW_iff]
    have h19 := h18.alloc (.cells #[.int .i64 e.first, .int .i64 e.len] 56)
    have d0 := h19.cell 0
    have d1 := h19.cell 1
    have h20 := h19.right
    generalize w17.drew.alloc (.cells #[.int .i64 e.first, .int .i64 e.len] 56) = w25 at d0 d1 h20 ⊢
    generalize w17.drew.heap.size = db at d0 d1 ⊢
    refine ⟨cv h20.right, ?_⟩
    have hex : extsOn (hp w25) ⟨some ⟨db, 0, none⟩, 1, 1⟩ [e] := ⟨rfl, fun j hj => by
      obtain rfl : j = 0 := by simpa using hj
      exact ⟨⟨db, 0, none⟩, rfl, d0, d1⟩⟩
    have h20' : Sat (setA sp V.set * (byteRow so (M.range e V.at_) * (pt eb (.cells #[.int .i64 e.first, .int .i64 e.len] 56) * (objA (some ⟨a, 0, none⟩) [.pointer (some ⟨mb, 0, none⟩), .pointer bp, .int .i64 V.at_, .pointer sp, slv rs] * (readsA rs V.reads * (xmapA (some ⟨mb, 0, none⟩) M * (bufA bp B * R))))))) w25 := h20.eq (by ac_rfl)
    refine set_add h20' okS hex (by simp; omega) fun w27 h27 => ?_
    refine ⟨cv (h27.right.right.eq (mul_assoc' _ _ _).symm |>.eq (mul_assoc' _ _ _)), ?_⟩
    by_cases hadd : (V.set.add [e]).2 = 0
    · rw [hadd]
      refine bsplit_iff.2 ⟨fun e => (by simp at e), fun _ => ⟨e.len, by rw [add_mk]; exact h27.right.right.cell 1, ?_⟩⟩
      have hvr : V.read M B e = ({ V with set := (V.set.add [e]).1, reads := V.reads ++ (blocksOf e).map (seenB M B V.at_) }, ((blocksOf e).flatMap fun k => (seenB M B V.at_ k).data, 0)) := by
        unfold View.read
        rw [if_neg (by omega), if_neg (by rw [hin]; simp), if_neg (by rw [hadd]; simp)]
      rw [hvr] at hk
      simp only at hk
      generalize (V.set.add [e]).1 = S1 at hk h27
      have hbl := blocksOf_length e
      have hlen : 0 ≤ e.first ∧ e.first + e.len ≤ 1048576 := by
        unfold within at hin
        simp only [Bool.and_eq_true, decide_eq_true_eq] at hin
        have := ok.1
        omega
      have h28 : Sat (byteRow so (mixedB M B V.at_ (blocksOf e) 0) * (pt eb (.cells #[.int .i64 e.first, .int .i64 e.len] 56) * (objA (some ⟨a, 0, none⟩) [.pointer (some ⟨mb, 0, none⟩), .pointer bp, .int .i64 V.at_, .pointer sp, slv rs] * (setA sp S1 * (readsA rs (V.reads ++ ((blocksOf e).take 0).map (seenB M B V.at_)) * (xmapA (some ⟨mb, 0, none⟩) M * (bufA bp B * R))))))) w27 := h27.eq (by
        simp only [mixedB, List.take_zero, List.flatMap_nil, List.nil_append, List.drop_zero, List.map_nil, List.append_nil, XMap.range]; ac_rfl)
      clear h27 h20 h20' h19 h18 hex h17
      refine loop_i (fun (x : Int) w' => ∃ (i : Nat) (rs' : SV), x = i ∧ i ≤ (blocksOf e).length ∧ Sat (byteRow so (mixedB M B V.at_ (blocksOf e) i) * (pt eb (.cells #[.int .i64 e.first, .int .i64 e.len] 56) * (objA (some ⟨a, 0, none⟩) [.pointer (some ⟨mb, 0, none⟩), .pointer bp, .int .i64 V.at_, .pointer sp, slv rs'] * (setA sp S1 * (readsA rs' (V.reads ++ ((blocksOf e).take i).map (seenB M B V.at_)) * (xmapA (some ⟨mb, 0, none⟩) M * (bufA bp B * R))))))) w')
        (fun x _ => (e.len - x).toNat) ⟨0, rs, rfl, by omega, h28⟩ ?_
      rintro x w30 ⟨i, rs', rfl, hi, hw⟩
      refine bsplit_decide.2 ⟨fun hlt => ?_, fun hge => ?_⟩
      · have hi' : i < (blocksOf e).length := by omega
        have hkey := blocksOf_get hi'
        have e40 : IntKind.i64.wrap ((i : Int) * 40) = ((i * 40 : Nat) : Int) := by rw [wrap_of (by omega) (by omega)]; omega
        have e1 : IntKind.i64.wrap ((i : Int) + 1) = ((i + 1 : Nat) : Int) := by rw [wrap_of (by omega) (by omega)]; omega
        have e41 : IntKind.i64.wrap (((i + 1 : Nat) : Int) * 40) = (((i + 1) * 40 : Nat) : Int) := by rw [wrap_of (by omega) (by omega)]; omega
        simp only [e1, e40, e41, Int.toNat_natCast]
        -- the row's parts
        generalize hA : (((blocksOf e).take i).flatMap fun k => (seenB M B V.at_ k).data) = A
        generalize hC : (((blocksOf e).drop (i + 1)).flatMap fun k => M.get k V.at_) = C
        have hAl : A.length = i * 40 := by rw [← hA, flatMap_len _ fun k _ => seen_len ok hb, List.length_take]; congr 1; omega
        have hgl := get_length ok (e.first + i) V.at_
        have hm0 : mixedB M B V.at_ (blocksOf e) i = A ++ M.get (e.first + i) V.at_ ++ C := by
          unfold mixedB
          rw [List.drop_eq_getElem_cons hi', List.flatMap_cons, hA, hC, hkey, List.append_assoc]
        have hm1 : mixedB M B V.at_ (blocksOf e) (i + 1) = A ++ (seenB M B V.at_ (e.first + i)).data ++ C := by
          unfold mixedB
          rw [List.take_succ_eq_append_getElem hi', List.flatMap_append, hA, hC, hkey]
          simp only [List.flatMap_cons, List.flatMap_nil, List.append_nil]
        have hr1 : V.reads ++ ((blocksOf e).take (i + 1)).map (seenB M B V.at_) = (V.reads ++ ((blocksOf e).take i).map (seenB M B V.at_)) ++ [seenB M B V.at_ (e.first + i)] := by
          rw [List.take_succ_eq_append_getElem hi', List.map_append, hkey, List.append_assoc]; rfl
        have hrl : (V.reads ++ ((blocksOf e).take i).map (seenB M B V.at_)).length + 1 ≤ 2 ^ 36 := by simp [List.length_take]; omega
        generalize V.reads ++ ((blocksOf e).take i).map (seenB M B V.at_) = rd at hw hr1 hrl
        rw [hm0] at hw
        have hson : so.n = (A ++ M.get (e.first + i) V.at_ ++ C).length := by have := ownS_length hw; rw [bytesV_length] at this; omega
        have hcap := ownS_cap hw
        have hlt40 : i * 40 < so.c := by simp only [List.length_append] at hson; omega
        obtain ⟨ob, hob⟩ := ownS_spot hw (by omega)
        refine ⟨by omega, by omega, by simp only [List.length_append] at hson; omega, ?_⟩
        rw [withW_iff]
        have hwd := hw.drew
        have hcl := (objA_cells hwd.right.right).1
        refine ⟨fun w' => Keep w30.drew w', Keep.refl _, ?_⟩
        rw [onP_some]
        refine ⟨bp, fun w' k => by rw [add_mk]; exact keep_cell k (hcl 1), e.first, fun w' k => keep_cell k (hwd.right.cell 0), ?_⟩
        rw [wrap_of (x := e.first + i) (by omega) (by omega)]
        refine buf_get (B := B) (hwd.right.right.right.right.right.right.left.eq (mul_one' _).symm) (fun q hq => by rw [hb q hq]; omega) fun s39 w40 h40 => ?_
        refine ⟨Keep.whole h40.right, ?_⟩
        have h41 := Sat.frame h40 hwd
        rw [hob, sub_spot hlt40]
        have e4 : (i + 1) * 40 - i * 40 = 40 := by omega
        rw [e4]
        cases hlk : lkp B.data (e.first + i) with
        | some d =>
          rw [hlk] at h41
          simp only [Option.isSome_some, Option.getD_some] at h41 ⊢
          have hsd : seenB M B V.at_ (e.first + i) = ⟨e.first + i, d, true⟩ := by unfold seenB; rw [hlk]
          rw [hsd] at hm1 hr1
          simp only at hm1
          have hdl : d.length = 40 := hb _ (lkp_mem hlk)
          have hon := byteRow_on h41.left
          refine bsplit_iff.2 ⟨fun _ => ?_, fun e => (by cases e)⟩
          have h42 : Sat (byteRow so (A ++ M.get (e.first + i) V.at_ ++ C) * (byteRow s39 d * (pt eb (.cells #[.int .i64 e.first, .int .i64 e.len] 56) * (objA (some ⟨a, 0, none⟩) [.pointer (some ⟨mb, 0, none⟩), .pointer bp, .int .i64 V.at_, .pointer sp, slv rs'] * (setA sp S1 * (readsA rs' rd * (xmapA (some ⟨mb, 0, none⟩) M * (bufA bp B * R)))))))) w40 := h41.eq (by ac_rfl)
          obtain ⟨ob', hob', hst, h43⟩ := ownS_store (news := bytesV d) (pre := bytesV A) (old := bytesV (M.get (e.first + i) V.at_)) (post := bytesV C) h42 (by simp only [bytesV_append]) (by rw [bytesV_length, bytesV_length, hgl, hdl]) (by rw [bytesV_length, hgl]; omega)
          rw [hob] at hob'; cases hob'
          rw [bytesV_length, hAl] at hst h43
          refine ⟨bytesV d, by rw [bytesV_length, hdl, hon.1, hdl]; rfl, all_one_bytes d, rowOn_cells hon.2, fun hno => ?_, fun ad had => ?_, ?_⟩
          · have := hon.2.1 hno
            have h2 := bytesV_length d
            rw [this] at h2; simp at h2; omega
          · cases had; exact hst
          have e5 : storeO (⟨some ⟨ob, i * 40, none⟩, 40, so.c - i * 40⟩ : SV).a w40 0 (bytesV d) = storeAll w40 ⟨ob, i * 40, none⟩ 0 (bytesV d) := by simp [storeO]
          rw [e5]
          generalize storeAll w40 ⟨ob, i * 40, none⟩ 0 (bytesV d) = w42 at h43 ⊢
          dsimp only
          rw [withW_iff]
          have h44 := h43.drew
          have hcl44 := (objA_cells h44.right.right.right).1
          have hc44 := h44.right.right.cell 0
          refine ⟨fun w' => w'.cell? ⟨a, 4, none⟩ = some (slv rs') ∧ w'.cell? ⟨eb, 0, none⟩ = some (.int .i64 e.first), ⟨hcl44 4, hc44⟩, ?_⟩
          rw [onP_some]
          refine ⟨rs', fun w' k => by rw [add_mk]; exact k.1, e.first, fun w' k => k.2, ?_⟩
          rw [withW_iff]
          rw [wrap_of (x := e.first + i) (by omega) (by omega)]
          have h45 := h44.alloc (.cells #[.int .i64 (e.first + i), .slice s39.a s39.n s39.c, .bool true] 76)
          have f0 := h45.cell 0
          have f1 := h45.cell 1
          have f2 := h45.cell 2
          have h46 := h45.right
          generalize w42.drew.alloc (.cells #[.int .i64 (e.first + i), .slice s39.a s39.n s39.c, .bool true] 76) = w50 at f0 f1 f2 h46 ⊢
          generalize w42.drew.heap.size = fb at f0 f1 f2 ⊢
          refine ⟨⟨(objA_cells h46.right.right.right).1 4, h46.right.right.cell 0⟩, ?_⟩
          have h47 : Sat (readsA rs' rd * (byteRow s39 d * (ownS 1 so (bytesV A ++ bytesV d ++ bytesV C) * (pt eb (.cells #[.int .i64 e.first, .int .i64 e.len] 56) * (objA (some ⟨a, 0, none⟩) [.pointer (some ⟨mb, 0, none⟩), .pointer bp, .int .i64 V.at_, .pointer sp, slv rs'] * (setA sp S1 * (xmapA (some ⟨mb, 0, none⟩) M * (bufA bp B * R)))))))) w50 := h46.eq (by ac_rfl)
          refine reads_push (x := ⟨e.first + i, d, true⟩) h47 ⟨f0, f1, f2⟩ hrl fun s51 w52 h52 => ?_
          have h53 : Sat (objA (some ⟨a, 0, none⟩) [.pointer (some ⟨mb, 0, none⟩), .pointer bp, .int .i64 V.at_, .pointer sp, slv rs'] * (pt eb (.cells #[.int .i64 e.first, .int .i64 e.len] 56) * (readsA s51 (rd ++ [⟨e.first + i, d, true⟩]) * (ownS 1 so (bytesV A ++ bytesV d ++ bytesV C) * (setA sp S1 * (xmapA (some ⟨mb, 0, none⟩) M * (bufA bp B * R))))))) w52 := h52.eq (by ac_rfl)
          refine ⟨⟨(objA_cells h53).1 4, h53.right.cell 0⟩, ?_⟩
          rw [onP_some, add_mk]
          refine objA_storeT h53 (by simp) fun w54 h54 => ?_
          refine ⟨⟨i + 1, s51, rfl, by omega, ?_⟩, by omega⟩
          rw [hm1, hr1]
          simp only [Nat.zero_add, List.set_cons_succ, List.set_cons_zero] at h54
          exact h54.eq (by unfold byteRow; rw [bytesV_append, bytesV_append]; unfold slv; ac_rfl)
        | none =>
          rw [hlk] at h41
          simp only [Option.isSome_none, Option.getD_none] at h41 ⊢
          have hsd : seenB M B V.at_ (e.first + i) = ⟨e.first + i, M.get (e.first + i) V.at_, false⟩ := by unfold seenB; rw [hlk]
          rw [hsd] at hm1 hr1
          simp only at hm1
          refine bsplit_iff.2 ⟨fun e => (by cases e), fun _ => ?_⟩
          rw [withW_iff]
          have h42 : Sat (byteRow so (A ++ M.get (e.first + i) V.at_ ++ C) * (pt eb (.cells #[.int .i64 e.first, .int .i64 e.len] 56) * (objA (some ⟨a, 0, none⟩) [.pointer (some ⟨mb, 0, none⟩), .pointer bp, .int .i64 V.at_, .pointer sp, slv rs'] * (setA sp S1 * (readsA rs' rd * (xmapA (some ⟨mb, 0, none⟩) M * (bufA bp B * R))))))) w40.drew := h41.right.drew
          have hcl42 := (objA_cells h42.right.right).1
          refine ⟨fun w' => w'.cell? ⟨a, 4, none⟩ = some (slv rs') ∧ w'.cell? ⟨eb, 0, none⟩ = some (.int .i64 e.first), ⟨hcl42 4, h42.right.cell 0⟩, ?_⟩
          rw [onP_some]
          refine ⟨rs', fun w' k => by rw [add_mk]; exact k.1, e.first, fun w' k => k.2, ?_⟩
          have hsub : bytesOn (hp w40.drew) ⟨some ⟨ob, i * 40, none⟩, 40, so.c - i * 40⟩ (M.get (e.first + i) V.at_) := by
            have hro := row_sub (k := i * 40) (m := (i + 1) * 40) (byteRow_on h42.left).2 (fun ad had => by rw [hob] at had; cases had; rfl) (by rw [bytesV_length, hson]) hcap (by omega) (by simp only [List.length_append] at hson; omega) (so.c - i * 40)
            rw [hob, sub_spot hlt40, e4] at hro
            refine ⟨hgl.symm, ?_⟩
            have : ((bytesV (A ++ M.get (e.first + i) V.at_ ++ C)).drop (i * 40)).take 40 = bytesV (M.get (e.first + i) V.at_) := by
              have hA' : (bytesV A).length = i * 40 := by rw [bytesV_length, hAl]
              have hg' : (bytesV (M.get (e.first + i) V.at_)).length = 40 := by rw [bytesV_length, hgl]
              rw [bytesV_append, bytesV_append, List.append_assoc, ← hA', List.drop_left, ← hg', List.take_left]
            rw [this] at hro
            exact hro
          refine clone_row h42 hsub (by rw [hgl]; omega) fun s62 w63 h63 => ?_
          have g1 : ∀ {A' : HP} {w' : World}, Sat (A' * (byteRow so (A ++ M.get (e.first + i) V.at_ ++ C) * (pt eb (.cells #[.int .i64 e.first, .int .i64 e.len] 56) * (objA (some ⟨a, 0, none⟩) [.pointer (some ⟨mb, 0, none⟩), .pointer bp, .int .i64 V.at_, .pointer sp, slv rs'] * (setA sp S1 * (readsA rs' rd * (xmapA (some ⟨mb, 0, none⟩) M * (bufA bp B * R)))))))) w' → w'.cell? ⟨a, 4, none⟩ = some (slv rs') ∧ w'.cell? ⟨eb, 0, none⟩ = some (.int .i64 e.first) := fun hh => ⟨(objA_cells hh.right.right.right).1 4, hh.right.right.cell 0⟩
          refine ⟨g1 h63, ?_⟩
          rw [withW_iff]
          rw [wrap_of (x := e.first + i) (by omega) (by omega)]
          have h64 := h63.alloc (.cells #[.int .i64 (e.first + i), .slice s62.a s62.n s62.c, .bool false] 76)
          have f0 := h64.cell 0
          have f1 := h64.cell 1
          have f2 := h64.cell 2
          have h65 := h64.right
          generalize w63.alloc (.cells #[.int .i64 (e.first + i), .slice s62.a s62.n s62.c, .bool false] 76) = w64 at f0 f1 f2 h65 ⊢
          generalize w63.heap.size = fb at f0 f1 f2 ⊢
          refine ⟨g1 h65, ?_⟩
          have h66 : Sat (readsA rs' rd * (byteRow s62 (M.get (e.first + i) V.at_) * (byteRow so (A ++ M.get (e.first + i) V.at_ ++ C) * (pt eb (.cells #[.int .i64 e.first, .int .i64 e.len] 56) * (objA (some ⟨a, 0, none⟩) [.pointer (some ⟨mb, 0, none⟩), .pointer bp, .int .i64 V.at_, .pointer sp, slv rs'] * (setA sp S1 * (xmapA (some ⟨mb, 0, none⟩) M * (bufA bp B * R)))))))) w64 := h65.eq (by ac_rfl)
          refine reads_push (x := ⟨e.first + i, M.get (e.first + i) V.at_, false⟩) h66 ⟨f0, f1, f2⟩ hrl fun s51 w52 h52 => ?_
          have h53 : Sat (objA (some ⟨a, 0, none⟩) [.pointer (some ⟨mb, 0, none⟩), .pointer bp, .int .i64 V.at_, .pointer sp, slv rs'] * (pt eb (.cells #[.int .i64 e.first, .int .i64 e.len] 56) * (readsA s51 (rd ++ [⟨e.first + i, M.get (e.first + i) V.at_, false⟩]) * (byteRow so (A ++ M.get (e.first + i) V.at_ ++ C) * (setA sp S1 * (xmapA (some ⟨mb, 0, none⟩) M * (bufA bp B * R))))))) w52 := h52.eq (by ac_rfl)
          refine ⟨⟨(objA_cells h53).1 4, h53.right.cell 0⟩, ?_⟩
          rw [onP_some, add_mk]
          refine objA_storeT h53 (by simp) fun w54 h54 => ?_
          refine ⟨⟨i + 1, s51, rfl, by omega, ?_⟩, by omega⟩
          rw [hm1, hr1]
          simp only [Nat.zero_add, List.set_cons_succ, List.set_cons_zero] at h54
          exact h54.eq (by unfold slv; ac_rfl)
      · obtain rfl : i = (blocksOf e).length := by omega
        rw [List.take_length] at hw
        have hmx : mixedB M B V.at_ (blocksOf e) (blocksOf e).length = (blocksOf e).flatMap fun k => (seenB M B V.at_ k).data := by
          unfold mixedB; rw [List.take_length, List.drop_length]; simp
        rw [hmx] at hw
        refine hk _ _ ?_
        have h60 : Sat (objA (some ⟨a, 0, none⟩) [.pointer (some ⟨mb, 0, none⟩), .pointer bp, .int .i64 V.at_, .pointer sp, slv rs'] * (setA sp S1 * (readsA rs' (V.reads ++ (blocksOf e).map (seenB M B V.at_)) * (byteRow so ((blocksOf e).flatMap fun k => (seenB M B V.at_ k).data) * (xmapA (some ⟨mb, 0, none⟩) M * (bufA bp B * R)))))) w30 :=
          (hw.eq (by ac_rfl : _ = pt eb (.cells #[.int .i64 e.first, .int .i64 e.len] 56) * (objA (some ⟨a, 0, none⟩) [.pointer (some ⟨mb, 0, none⟩), .pointer bp, .int .i64 V.at_, .pointer sp, slv rs'] * (setA sp S1 * (readsA rs' (V.reads ++ (blocksOf e).map (seenB M B V.at_)) * (byteRow so ((blocksOf e).flatMap fun k => (seenB M B V.at_ k).data) * (xmapA (some ⟨mb, 0, none⟩) M * (bufA bp B * R)))))))).right
        have h61 := viewA_close (V := { V with set := S1, reads := V.reads ++ (blocksOf e).map (seenB M B V.at_) }) h60
        exact h61.eq (by ac_rfl)
    · refine bsplit_iff.2 ⟨fun _ => ?_, fun e => absurd (by simpa using e) hadd⟩
      rw [add_fail hadd] at h27
      have h28 : Sat (objA (some ⟨a, 0, none⟩) [.pointer (some ⟨mb, 0, none⟩), .pointer bp, .int .i64 V.at_, .pointer sp, slv rs] * (setA sp V.set * (readsA rs V.reads * (byteRow so (M.range e V.at_) * (pt eb (.cells #[.int .i64 e.first, .int .i64 e.len] 56) * (xmapA (some ⟨mb, 0, none⟩) M * (bufA bp B * R))))))) w27 := h27.eq (by ac_rfl)
      have h29 := viewA_close (V := V) h28
      refine nores _ _ (by unfold View.read; rw [if_neg (by omega), if_neg (by rw [hin]; simp), if_pos hadd]) ?_
      exact (h29.eq (by ac_rfl : _ = (byteRow so (M.range e V.at_) * pt eb (.cells #[.int .i64 e.first, .int .i64 e.len] 56)) * (viewA (some ⟨a, 0, none⟩) (some ⟨mb, 0, none⟩) bp V * (xmapA (some ⟨mb, 0, none⟩) M * (bufA bp B * R))))).right
end Go.Proofs.YtbolgpjcmchfoaaGreat
/- Contracts of the manager: reads, loads, what is told of all blocks. -/
namespace Go.Proofs.YtbolgpjcmchfoaaGreat
open Go Go.Vc Go.Sl Go.Mo
theorem xmap_dump {B : Nat} {p : Option Addr} {M : XMap} {R : HP} {w : World} {K : SV → World → Prop} (h : Sat (xmapA p M * R) w) (ok : XOk B M) (hB : B ≤ 2 ^ 20) (hk : ∀ s w', Sat (putsA s M.dump * whole w) w' → K s w') : c_extmap_Map_Dump p w K := by
  obtain ⟨b, rfl⟩ := xmap_ptr h
  obtain ⟨r, h1⟩ := xmapA_open h
  refine extmap_Map_Dump_go ?_
  unfold f_extmap_Map_Dump
  refine gone_some ((objA_cells h1).1 0) (bsplit_decide.2 ⟨fun h0 => by have := ok.1.1; omega, fun _ => ?_⟩)
  rw [onP_some, add_mk]
  refine ⟨some r, (objA_cells h1).1 1, ?_⟩
  obtain ⟨m, hm, hkeys⟩ := slmapA_map h1.right
  have hlen : m.length = M.vers.length := by have := congrArg List.length hkeys; simpa using this
  have hvl : M.vers.length ≤ 2 ^ 33 := by have := ok.2.1; omega
  refine sorted_V r m 1 w _ hm (fun q hq => ?_) (by rw [hlen]; omega) fun s w6 hn k6 hs => ?_
  · have : q.1 ∈ M.vers.map Prod.fst := hkeys ▸ List.mem_map_of_mem (f := Prod.fst) hq
    obtain ⟨x, hx, e⟩ := List.mem_map.1 this
    have h2 := (ok.2.2 x hx).1
    have := ok.1.2
    rw [← e]; unfold i64ok; omega
  rw [hkeys] at hs
  have h6 := hs _ (sat_whole w)
  have hsn : s.n = M.vers.length := by rw [hn, hlen]
  have hpl : M.dump.length = M.vers.length := by simp [XMap.dump, sortI_length]
  have hkl : (sortI (M.vers.map Prod.fst)).length = M.vers.length := by simp [sortI_length]
  have hmem : ∀ k ∈ sortI (M.vers.map Prod.fst), k ∈ M.vers.map Prod.fst := fun k hk => (sortI_perm _).mem_iff.1 hk
  have hput : M.dump = (sortI (M.vers.map Prod.fst)).map fun k => ⟨k, ((versOf M.vers k).getLastD ⟨0, []⟩).data⟩ := rfl
  generalize sortI (M.vers.map Prod.fst) = ks at *
  generalize M.dump = ps at *
  refine loop_i (fun (x : SV × Int) w' => ∃ i : Nat, x.2 = i ∧ i ≤ ps.length ∧ Sat (putsA x.1 (ps.take i) * (ownS 1 s (ks.map (Value.int .i64)) * whole w)) w') (fun x _ => ps.length - x.2.toNat) ⟨0, rfl, by omega, pairsA_nil h6 rfl rfl⟩ ?_
  rintro ⟨out, x⟩ w8 ⟨i, hx, hi, hw⟩
  simp only at hx; subst hx
  refine bsplit_decide.2 ⟨fun hlt => ?_, fun hge => ?_⟩
  · have hlt' : i < M.vers.length := by simp at hlt; omega
    have hki : i < ks.length := by omega
    have hkm : i < (ks.map (Value.int .i64)).length := by simpa using hki
    have hwo : Sat (ownS 1 s (ks.map (Value.int .i64)) * (putsA out (ps.take i) * whole w)) w8 := hw.eq (by ac_rfl)
    obtain ⟨bk, hbk, hck⟩ := ownS_cell hwo hkm
    have kw : Keep w w8 := Keep.whole hw.right.right
    have h8 := kw.sat h1
    have hck' : w8.cell? ⟨bk, i, none⟩ = some (.int .i64 ks[i]) := by rw [hck i hkm]; simp
    obtain ⟨v, hv⟩ := lkp_key (hmem _ (List.getElem_mem hki))
    have hvo : versOf M.vers ks[i] = v := by unfold versOf; rw [hv]; rfl
    obtain ⟨_, hv0, hvB, hv40⟩ := ok.2.2 _ (lkp_mem hv)
    simp only at hv0 hvB hv40
    have htake : ps.take (i + 1) = ps.take i ++ [⟨ks[i], (v.getLastD ⟨0, []⟩).data⟩] := by
      rw [List.take_succ_eq_append_getElem (by omega)]
      subst hput
      simp [hvo]
    refine ⟨by omega, hlt, onP_i hbk ⟨ks[i], by simpa using hck', ?_⟩⟩
    rw [onP_some, add_mk]
    refine ⟨some r, (objA_cells h8).1 1, rfl, ?_⟩
    rw [onM_some]
    obtain ⟨es, hcl, x19, hx19, hon⟩ := vers_at h8 ks[i]
    rw [hvo] at hon
    have e1 : IntKind.i64.wrap (((x19.n : Nat) : Int) - 1) = ((v.length - 1 : Nat) : Int) := by rw [hon.1, wrap_of (by omega) (by omega)]; omega
    refine ⟨es, hcl, x19, hx19, ?_⟩
    rw [e1]
    refine ⟨by omega, by have := hon.1; omega, ?_⟩
    obtain ⟨ad, d, ha, _, hc2, hd⟩ := hon.2 (v.length - 1) (by omega)
    have hlast : v[v.length - 1]'(by omega) = v.getLastD ⟨0, []⟩ := by
      rw [List.getLastD_eq_getLast?, List.getLast?_eq_getElem?, List.getElem?_eq_getElem (by omega)]; rfl
    rw [hlast] at hd
    have hd40 : (v.getLastD ⟨0, []⟩).data.length = 40 := by rw [← hlast]; exact hv40 _ (List.getElem_mem _)
    refine onP_i ha ⟨d, hc2, ?_⟩
    refine clone_bytes hw hd (by omega) fun s' w9 hs' hw9 => ?_
    rw [withW_iff]
    have hwa := hw9.alloc (.cells #[.int .i64 ks[i], .slice s'.a s'.n s'.c] 33)
    have hc0 := hwa.cell 0
    have hc1 := hwa.cell 1
    have hwb := hwa.right
    generalize w9.heap.size = bn at hc0 hc1 ⊢
    have hpi : i < ps.length := by omega
    refine pairsA_push (x := (⟨ks[i], (v.getLastD ⟨0, []⟩).data⟩ : Put)) (d := s') (num := Put.lba) (A := fun s x => byteRow s x.data) (l := ps.take i) (R := ownS 1 s (ks.map (Value.int .i64)) * whole w) (hwb.eq ?_) ⟨hc0, hc1⟩ (by simp; omega) (by omega) rfl fun s2 w10 hw10 => ?_
    · show byteRow s' (v.getLastD ⟨0, []⟩).data * (putsA out (ps.take i) * (ownS 1 s (ks.map (Value.int .i64)) * whole w)) = putsA out (ps.take i) * (byteRow s' (v.getLastD ⟨0, []⟩).data * (ownS 1 s (ks.map (Value.int .i64)) * whole w))
      ac_rfl
    · have e1 : IntKind.i64.wrap ((i : Int) + 1) = ((i + 1 : Nat) : Int) := by rw [wrap_of (by omega) (by omega)]; omega
      refine ⟨⟨i + 1, e1, by omega, ?_⟩, by simp only [e1]; omega⟩
      rw [htake]
      exact hw10
  · obtain rfl : i = ps.length := by simp at hge; omega
    rw [List.take_length] at hw
    have : Sat (ownS 1 s (ks.map (Value.int .i64)) * (putsA out ps * whole w)) w8 := hw.eq (by ac_rfl)
    exact hk _ _ this.right
theorem mgr_dump {B : Nat} {p : Option Addr} {M : Mgr} {R : HP} {w : World} {K : SV → World → Prop} (h : Sat (mgrA p M * R) w) (ok : XOk B M.m) (hB : B ≤ 2 ^ 20) (hk : ∀ s w', Sat (putsA s M.m.dump * whole w) w' → K s w') : c_txn_Manager_Dump p w K := by
  obtain ⟨mp, bk, r, qs, xs, hx, h1⟩ := mgrA_open h
  obtain ⟨a, b, c, rfl, rfl, rfl⟩ := mgr_ptr h1
  unfold mgrO at h1
  have h2 := h1.eq (mul_assoc' _ _ _)
  refine txn_Manager_Dump_go (mgone_c h2 (bsplit_iff.2 ⟨fun e => (by cases e), fun _ => ?_⟩))
  rw [onP_some]
  refine ⟨_, (objA_cells h2).1 0, xmap_dump (h2.right.eq (mul_assoc' _ _ _)) ok hB fun s w' h' => hk s w' h'⟩
theorem mgr_ro {p : Option Addr} {M : Mgr} {v : Bool} {R : HP} {w : World} {K : Unit → World → Prop} (h : Sat (mgrA p M * R) w) (hk : ∀ w', Sat (mgrA p { M with read := v } * R) w' → K () w') : c_txn_Manager_ReadOnly p v w K := by
  obtain ⟨mp, bk, r, qs, xs, hx, h1⟩ := mgrA_open h
  obtain ⟨a, b, c, rfl, rfl, rfl⟩ := mgr_ptr h1
  unfold mgrO at h1
  have h2 := h1.eq (mul_assoc' _ _ _)
  refine txn_Manager_ReadOnly_go (mgone_c h2 (bsplit_iff.2 ⟨fun _ => ?_, fun e => (by cases e)⟩))
  rw [onP_some, add_mk]
  refine objA_store h2 (by simp [mcells]) fun w' h' => hk w' ?_
  refine mgrA_close (M := { M with read := v }) (mp := some ⟨b, 0, none⟩) (bk := some ⟨c, 0, none⟩) (r := r) (qs := qs) (xs := xs) ?_ hx
  unfold mgrO
  simp only [mcells, Nat.zero_add, List.set_cons_succ, List.set_cons_zero] at h' ⊢
  exact h'.eq (mul_assoc' _ _ _).symm
theorem mgr_read {n : Nat} {p : Option Addr} {M : Mgr} {i : Int} {e : Ext} {R : HP} {w : World} {K : SV × Int → World → Prop} (h : Sat (mgrA p M * R) w) (okM : XOk n M.m) (hn : n ≤ 2 ^ 30)
    (okT : ∀ T, M.opn i = some T → (∀ q ∈ T.buf.data, q.2.length = 40) ∧ SetOk T.view.set ∧ T.view.set.l.length ≤ 2 ^ 29 ∧ T.view.reads.length ≤ 2 ^ 30)
    (hk : ∀ s w', Sat (byteRow s (M.readE i e).2.1 * (mgrA p (M.readE i e).1 * R)) w' → K (s, (M.readE i e).2.2) w') : c_txn_Manager_Read p i e.first e.len w K := by
  refine txn_Manager_Read_go ?_
  unfold f_txn_Manager_Read
  rw [withW_iff]
  have h0 := (h.alloc (.cells #[.int .i64 e.first, .int .i64 e.len] 56)).eq (by ac_rfl : _ = mgrA p M * (pt w.heap.size (.cells #[.int .i64 e.first, .int .i64 e.len] 56) * R))
  generalize w.alloc (.cells #[.int .i64 e.first, .int .i64 e.len] 56) = w1 at h0 ⊢
  generalize w.heap.size = eb at h0 ⊢
  obtain ⟨mp, bk, r, qs, xs, hx, h1⟩ := mgrA_open h0
  refine open_c h1 hx (fun d T hlk hop hst => ?_) fun hop => ?_
  · obtain ⟨t1, t2, t3, t4⟩ := okT T hop
    have hr : M.readE i e = ({ M with all := put M.all i { T with view := (T.view.read M.m T.buf e).1 } }, (T.view.read M.m T.buf e).2) := by unfold Mgr.readE; rw [hop]
    rw [hr] at hk
    refine bsplit_iff.2 ⟨fun e => (by cases e), fun _ => ?_⟩
    rw [mgr_focus hlk] at h1
    obtain ⟨bp, vp, h2⟩ := trA_open (h1.eq (mul_assoc' _ _ _))
    rw [withW_iff]
    have h3 : Sat (viewA vp mp bp T.view * (xmapA mp M.m * (bufA bp T.buf * (objA (some ⟨d, 0, none⟩) [.int .i64 T.state, .int .i64 T.time, .int .i64 T.code, .int .i64 T.at_, .pointer bp, .pointer vp] * (pt eb (.cells #[.int .i64 e.first, .int .i64 e.len] 56) * ((objA p (mcells mp bk r qs M) * (bookA bk M.book * (mapA r (ptrs xs) * (Sl.all (del xs i) (fun x => trA mp x.2.1 x.2.2) * ownS 1 qs (M.queue.map intv))))) * R)))))) w1.drew := h2.drew.eq (by unfold mgrH; ac_rfl)
    have cv : ∀ {A B C : HP} {w' : World}, Sat (A * (B * (C * (objA (some ⟨d, 0, none⟩) [.int .i64 T.state, .int .i64 T.time, .int .i64 T.code, .int .i64 T.at_, .pointer bp, .pointer vp] * (pt eb (.cells #[.int .i64 e.first, .int .i64 e.len] 56) * ((objA p (mcells mp bk r qs M) * (bookA bk M.book * (mapA r (ptrs xs) * (Sl.all (del xs i) (fun x => trA mp x.2.1 x.2.2) * ownS 1 qs (M.queue.map intv))))) * R)))))) w' →
        w'.cell? ⟨d, 5, none⟩ = some (.pointer vp) ∧ w'.cell? ⟨eb, 0, none⟩ = some (.int .i64 e.first) ∧ w'.cell? ⟨eb, 1, none⟩ = some (.int .i64 e.len) := fun hh => ⟨(objA_cells hh.right.right.right).1 5, hh.right.right.right.right.cell 0, hh.right.right.right.right.cell 1⟩
    refine ⟨fun w' => w'.cell? ⟨d, 5, none⟩ = some (.pointer vp) ∧ w'.cell? ⟨eb, 0, none⟩ = some (.int .i64 e.first) ∧ w'.cell? ⟨eb, 1, none⟩ = some (.int .i64 e.len), cv h3, ?_⟩
    rw [onP_some]
    refine ⟨vp, fun w' k => by rw [add_mk]; exact k.1, (e.first, e.len), fun w' k => ⟨k.2.1, by rw [add_mk]; exact k.2.2⟩, ?_⟩
    refine view_read h3 okM hn t1 t2 t3 t4 fun s w' h' => ⟨cv h'.right, hk s w' ?_⟩
    have h4 : Sat (objA (some ⟨d, 0, none⟩) [.int .i64 T.state, .int .i64 T.time, .int .i64 T.code, .int .i64 T.at_, .pointer bp, .pointer vp] * (bufA bp T.buf * (viewA vp mp bp (T.view.read M.m T.buf e).1 * (mgrH p mp bk r qs xs M i * (pt eb (.cells #[.int .i64 e.first, .int .i64 e.len] 56) * (byteRow s (T.view.read M.m T.buf e).2.1 * R)))))) w' := h'.eq (by unfold mgrH; ac_rfl)
    have h5 := trA_close (T := { T with view := (T.view.read M.m T.buf e).1 }) h4
    have h6 : Sat (mgrA p { M with all := put M.all i { T with view := (T.view.read M.m T.buf e).1 } } * (pt eb (.cells #[.int .i64 e.first, .int .i64 e.len] 56) * (byteRow s (T.view.read M.m T.buf e).2.1 * R))) w' := by
      refine mgrA_close (M := { M with all := put M.all i { T with view := (T.view.read M.m T.buf e).1 } }) (mp := mp) (bk := bk) (r := r) (qs := qs) (xs := put xs i (some ⟨d, 0, none⟩, { T with view := (T.view.read M.m T.buf e).1 })) ?_ ?_
      · rw [mgr_back hlk]
        exact h5.eq (by unfold mgrH mcells; ac_rfl)
      · rw [← put_on2, hx]
    exact (h6.eq (by ac_rfl : _ = pt eb (.cells #[.int .i64 e.first, .int .i64 e.len] 56) * (byteRow s (T.view.read M.m T.buf e).2.1 * (mgrA p { M with all := put M.all i { T with view := (T.view.read M.m T.buf e).1 } } * R)))).right
  · have hr : M.readE i e = (M, ([], 5)) := by unfold Mgr.readE; rw [hop]
    rw [hr] at hk
    exact bsplit_iff.2 ⟨fun _ => hk _ _ (ownS_nil (h0.eq (by ac_rfl : _ = pt eb (.cells #[.int .i64 e.first, .int .i64 e.len] 56) * (mgrA p M * R))).right rfl rfl), fun e => (by cases e)⟩
end Go.Proofs.YtbolgpjcmchfoaaGreat
/- Contracts: the least time that anybody reads; how many versions there are. -/
namespace Go.Proofs.YtbolgpjcmchfoaaGreat
open Go Go.Vc Go.Sl Go.Mo
theorem foldl_min_le : ∀ (l : List (Int × Int)) (a : Int), (l.foldl (fun a p => min a p.2) a ≤ a ∧ ∀ p ∈ l, l.foldl (fun a p => min a p.2) a ≤ p.2) ∧ (l.foldl (fun a p => min a p.2) a = a ∨ ∃ p ∈ l, l.foldl (fun a p => min a p.2) a = p.2)
  | [], a => by simp
  | q :: r, a => by
    obtain ⟨⟨h1, h2⟩, h3⟩ := foldl_min_le r (min a q.2)
    simp only [List.foldl_cons]
    refine ⟨⟨by omega, fun p hp => ?_⟩, ?_⟩
    · rcases List.mem_cons.1 hp with e | e
      · subst e; omega
      · exact h2 p e
    · rcases h3 with e | ⟨p, hp, e⟩
      · rw [e]
        rcases Int.le_total a q.2 with h | h
        · exact .inl (by omega)
        · exact .inr ⟨q, by simp, by omega⟩
      · exact .inr ⟨p, by simp [hp], e⟩
theorem low_eq {B : Book} {now v : Int} (h1 : v ≤ now) (h2 : ∀ p ∈ B.times, v ≤ p.2) (h3 : v = now ∨ ∃ p ∈ B.times, v = p.2) : B.low now = v := by
  obtain ⟨⟨a, b⟩, c⟩ := foldl_min_le B.times now
  unfold Book.low
  generalize B.times.foldl (fun a p => min a p.2) now = u at a b c
  have x1 : u ≤ v := by
    rcases h3 with e | ⟨p, hp, e⟩
    · omega
    · have := b p hp; omega
  have x2 : v ≤ u := by
    rcases c with e | ⟨p, hp, e⟩
    · omega
    · have := h2 p hp; omega
  omega
theorem en_same {es : List En} (hn : (es.map En.b).Nodup) {f g : En} (hf : f ∈ es) (hg : g ∈ es) (h : f.b = g.b) : f = g := by
  refine Classical.byContradiction fun hne => ?_
  have hp := List.pairwise_map.1 hn
  rcases List.getElem_of_mem hf with ⟨i, hi, rfl⟩
  rcases List.getElem_of_mem hg with ⟨j, hj, rfl⟩
  rcases Nat.lt_trichotomy i j with h' | h' | h'
  · exact List.pairwise_iff_getElem.1 hp i j hi hj h' h
  · subst h'; exact hne rfl
  · exact List.pairwise_iff_getElem.1 hp j i hj hi h' h.symm
theorem book_low {p : Option Addr} {B : Book} {now : Int} {R : HP} {w : World} {K : Int → World → Prop} (h : Sat (bookA p B * R) w) (hk : ∀ w', Keep w w' → K (B.low now) w') : c_horizon_Book_Low p now w K := by
  obtain ⟨b, rfl⟩ := book_ptr h
  obtain ⟨r, h1⟩ := bookA_open h
  refine horizon_Book_Low_go ?_
  unfold f_horizon_Book_Low
  refine bsplit_iff.2 ⟨fun e => (by cases e), fun _ => ?_⟩
  rw [onP_some, add_mk]
  refine ⟨some r, (objA_cells h1).1 2, ?_⟩
  rw [onM_some]
  obtain ⟨es, cl, mok, hkv, h2⟩ := mapA_open h1.right
  have hes : ∀ f ∈ es, ∃ t, (f.k, t) ∈ B.times ∧ f.v = intv t := fun f hf => by
    have : (f.k, f.v) ∈ kvs es := List.mem_map.2 ⟨f, hf, rfl⟩
    rw [hkv] at this
    obtain ⟨x, hx, e⟩ := List.mem_map.1 this
    simp only [Prod.mk.injEq] at e
    exact ⟨x.2, by rw [← e.1]; exact hx, e.2.symm⟩
  have hse : ∀ q ∈ B.times, ∃ f ∈ es, f.k = q.1 ∧ f.v = intv q.2 := fun q hq => by
    have : (q.1, intv q.2) ∈ kvs es := by rw [hkv]; exact List.mem_map.2 ⟨q, hq, rfl⟩
    obtain ⟨f, hf, e⟩ := List.mem_map.1 this
    simp only [Prod.mk.injEq] at e
    exact ⟨f, hf, e.1, e.2⟩
  refine ⟨_, cl, h2.get, ?_⟩
  rw [withW_iff]
  have hit : Sat (iterP w.heap.size r cl #[] * whole w) (w.alloc (.mapIter (some r) cl #[] cl)) := (sat_whole w).alloc _
  generalize w.heap.size = it at hit ⊢
  have hmap : ∀ w', Sat (whole w) w' → mapAt w' r .i64 es cl := fun w' hw => keep_heap (Keep.whole hw) (mapE_at h2)
  refine loop_i (fun (x : Int) w' => ∃ seen, Sat (iterP it r cl seen * whole w) w' ∧ x ≤ now ∧ (x = now ∨ ∃ p ∈ B.times, x = p.2) ∧ ∀ f ∈ es, f.b ∈ seen → ∀ t, f.v = intv t → x ≤ t) (fun _ w' => match w'.heap[it]? with | some (.mapIter _ _ seen _) => left es seen | _ => 0) ⟨#[], hit, Int.le_refl _, .inl rfl, by simp⟩ ?_
  rintro x w4 ⟨seen, hw, hx1, hx2, hseen⟩
  have hleft : (match w4.heap[it]? with | some (.mapIter _ _ seen _) => left es seen | _ => 0) = left es seen := by rw [hw.get]
  rw [hleft]
  refine iter_step (enc := fun x : Int => .int .i64 x) hw hmap mok (fun f hf => ?_) (fun f hf hfs t ht w' hw' => ?_) (fun hall w' hw' => ?_)
  · obtain ⟨t, _, hv⟩ := hes f hf
    exact ⟨t, hv⟩
  · rw [withI_iff]
    have hnew : (match w'.heap[it]? with | some (.mapIter _ _ seen _) => left es seen | _ => 0) < left es seen := by rw [hw'.get]; exact left_lt hf hfs
    obtain ⟨t', hm, hv⟩ := hes f hf
    obtain rfl : t' = t := by rw [ht] at hv; simpa [intv] using hv.symm
    refine ⟨⟨seen.push f.b, hw', by split <;> omega, ?_, fun g hg hgs u hu => ?_⟩, hnew⟩
    · split
      · exact .inr ⟨_, hm, rfl⟩
      · exact hx2
    · rcases Array.mem_push.1 hgs with h3 | h3
      · have := hseen g hg h3 u hu; split <;> omega
      · obtain rfl := en_same mok.2.1 hg hf h3
        rw [ht] at hu
        have : t' = u := by simpa [intv] using hu
        split <;> omega
  · have := hk w' (Keep.whole hw'.right)
    rw [low_eq hx1 (fun q hq => ?_) hx2] at this
    · exact this
    · obtain ⟨f, hf, _, hv⟩ := hse q hq
      exact hseen f hf (hall f hf) _ hv
/-! ### Sums over what was met of a map -/
def wsum (f : Int → Nat) (es : List En) (seen : Array Nat) : Nat := ((es.filter fun e => decide (e.b ∈ seen)).map fun e => f e.k).sum
theorem wsum_none (f : Int → Nat) (es : List En) : wsum f es #[] = 0 := by
  unfold wsum
  rw [List.filter_eq_nil_iff.2 (by simp)]; rfl
theorem wsum_push (f : Int → Nat) : ∀ {es : List En} {seen : Array Nat} {e : En}, (es.map En.b).Nodup → e ∈ es → e.b ∉ seen → wsum f es (seen.push e.b) = wsum f es seen + f e.k
  | [], _, _, _, he, _ => by simp at he
  | g :: r, seen, e, hn, he, hs => by
    simp only [List.map_cons, List.nodup_cons] at hn
    unfold wsum
    simp only [List.filter_cons]
    rcases List.mem_cons.1 he with h | h
    · subst h
      have h1 : decide (e.b ∈ seen.push e.b) = true := by simp
      have h2 : decide (e.b ∈ seen) = false := by simpa using hs
      have h3 : (r.filter fun e' => decide (e'.b ∈ seen.push e.b)) = r.filter fun e' => decide (e'.b ∈ seen) := by
        refine List.filter_congr fun x hx => ?_
        have : x.b ≠ e.b := fun h => hn.1 (h ▸ List.mem_map_of_mem (f := En.b) hx)
        simp [this]
      rw [h1, h2, h3]; simp; omega
    · have ih := wsum_push f hn.2 h hs
      unfold wsum at ih
      have hne : g.b ≠ e.b := fun h' => hn.1 (h' ▸ List.mem_map_of_mem (f := En.b) h)
      have h1 : decide (g.b ∈ seen.push e.b) = decide (g.b ∈ seen) := by simp [hne]
      rw [h1]
      by_cases h2 : g.b ∈ seen
      · simp only [h2, decide_true, if_true, List.map_cons, List.sum_cons, ih]; omega
      · simp only [h2, decide_false, Bool.false_eq_true, if_false]; exact ih
theorem wsum_all (f : Int → Nat) {es : List En} {seen : Array Nat} (h : ∀ e ∈ es, e.b ∈ seen) : wsum f es seen = (es.map fun e => f e.k).sum := by
  unfold wsum
  rw [List.filter_eq_self.2 fun e he => by simpa using h e he]
theorem wsum_le (f : Int → Nat) (es : List En) (seen : Array Nat) (n : Nat) (h : ∀ e ∈ es, f e.k ≤ n) : wsum f es seen ≤ es.length * n := by
  unfold wsum
  induction es with
  | nil => simp
  | cons g r ih =>
    have := ih fun e he => h e (by simp [he])
    have hg := h g (by simp)
    simp only [List.filter_cons, List.length_cons, Nat.succ_mul]
    split
    · simp only [List.map_cons, List.sum_cons]; omega
    · omega
theorem vers_sum {M : XMap} (hn : (M.vers.map Prod.fst).Nodup) (g : List Put → Nat) {es : List En} (hk : es.map En.k = M.vers.map Prod.fst) : (es.map fun e => g (versOf M.vers e.k)).sum = (M.vers.map fun q => g q.2).sum := by
  have : (es.map fun e => g (versOf M.vers e.k)) = (M.vers.map Prod.fst).map fun k => g (versOf M.vers k) := by rw [← hk, List.map_map]; rfl
  rw [this, List.map_map]
  congr 1
  refine List.map_congr_left fun q hq => ?_
  simp only [Function.comp_def, versOf]
  rw [lkp_of_mem hn (show (q.1, q.2) ∈ M.vers from hq)]; rfl
theorem slmapA_iterK {β : Type} {A : SV → β → HP} {r : Nat} {l : List (Int × β)} {R : HP} {w : World} (h : Sat (slmapA A r l * R) w) : ∃ es clock, ∃ xs : List (Int × (SV × β)), MapOk es clock ∧ on2 Prod.snd xs = l ∧ kvs es = on2 (fun x => slv x.1) xs ∧ Sat (mapE r es clock * (all xs (fun x => A x.2.1 x.2.2) * R)) w := by
  obtain ⟨xs, rfl, h1⟩ := slmapA_open h
  obtain ⟨es, clock, ok, hkv, h2⟩ := mapA_open h1
  exact ⟨es, clock, xs, ok, rfl, hkv, h2⟩
theorem kvs_keys {β : Type} {es : List En} {xs : List (Int × (SV × β))} (h : kvs es = on2 (fun x => slv x.1) xs) : es.map En.k = (on2 Prod.snd xs).map Prod.fst := by
  have := congrArg (List.map Prod.fst) h
  rw [keys_on2] at this ⊢
  rw [← this]; simp [kvs, Function.comp_def]
theorem kvs_mem {β : Type} {es : List En} {xs : List (Int × (SV × β))} (h : kvs es = on2 (fun x => slv x.1) xs) {f : En} (hf : f ∈ es) : ∃ s b, (f.k, (s, b)) ∈ xs ∧ f.v = slv s := by
  have : (f.k, f.v) ∈ kvs es := List.mem_map.2 ⟨f, hf, rfl⟩
  rw [h] at this
  obtain ⟨x, hx, e1⟩ := List.mem_map.1 this
  simp only [Prod.mk.injEq] at e1
  exact ⟨x.2.1, x.2.2, by rw [← e1.1]; exact hx, e1.2.symm⟩
end Go.Proofs.YtbolgpjcmchfoaaGreat
/- What every manager is that the rules make: bounds that all calls keep; the calls' contracts under them alone. -/
namespace Go.Proofs.YtbolgpjcmchfoaaGreat
open Go Go.Vc Go.Sl Go.Mo
theorem delP_sublist {α : Type} (l : List (Int × α)) (k : Int) : (del l k).Sublist l := by
  induction l with
  | nil => exact List.Sublist.refl _
  | cons p r ih =>
    simp only [del]; split
    · exact List.sublist_cons_self _ _
    · exact ih.cons_cons _
theorem put_put {α : Type} : ∀ (l : List (Int × α)) (k : Int) (a b : α), put (put l k a) k b = put l k b := by
  intro l k a b
  induction l with
  | nil => simp [put]
  | cons p r ih =>
    obtain ⟨j, x⟩ := p
    simp only [put]
    by_cases e : k = j
    · simp [e, put]
    · simp [e, put, ih]
structure BufIn (n : Int) (B : Buf) : Prop where
  bl : B.blocks = n
  most : B.most = 16
  len : B.data.length ≤ 16
  data : ∀ q ∈ B.data, (0 ≤ q.1 ∧ q.1 < n) ∧ q.2.length = 40
structure TrnIn (n : Int) (T : Trn) : Prop where
  buf : BufIn n T.buf
  set : SetOk T.view.set
  most : T.view.set.most = 64
  slen : T.view.set.l.length ≤ 64
  time : 0 ≤ T.time ∧ T.time ≤ 1099511627776
  at_ : 0 ≤ T.at_ ∧ T.at_ ≤ 1099511627776
  vat : T.view.at_ = T.at_
  rdat : ∀ x ∈ T.view.reads, x.data.length = 40
/-- B: so many versions of a block at most; N: so many calls. -/
structure MgrIn (B N : Nat) (M : Mgr) : Prop where
  vers : XOk B M.m
  most : M.book.most = 16
  blast : 0 ≤ M.book.last ∧ M.book.last ≤ N
  keys : ∀ p ∈ M.book.times, 1 ≤ p.1 ∧ p.1 ≤ M.book.last
  blen : M.book.times.length ≤ 16
  all : ∀ q ∈ M.all, (1 ≤ q.1 ∧ q.1 ≤ M.book.last) ∧ TrnIn M.m.blocks q.2
  q : ∀ h ∈ M.queue, (lkp M.all h).isSome
  qlen : M.queue.length ≤ N
  out : 0 ≤ M.out ∧ M.out ≤ (M.queue.length : Nat)
  num : 0 ≤ M.num ∧ M.num ≤ N
  last : 0 ≤ M.last ∧ M.last ≤ 1099511627776
  given : 0 ≤ M.given ∧ M.given ≤ 1099511627776
  rds : ∀ q ∈ M.all, q.2.view.reads.length ≤ 16 * N
def MgrOk (N : Nat) (M : Mgr) : Prop := ∃ B, MgrIn B N M ∧ B + M.queue.length ≤ N
theorem BufIn.ok {n : Int} {B : Buf} (h : BufIn n B) (hn : n ≤ 1048576) : BufOk B ∧ ∀ q ∈ B.data, lbaOk q.1 :=
  ⟨⟨fun p hp => by obtain ⟨a, b⟩ := h.data p hp; exact ⟨by unfold i64ok; omega, by omega⟩, by have := h.len; omega⟩, fun q hq => by obtain ⟨a, b⟩ := h.data q hq; unfold lbaOk; omega⟩
theorem TrnIn.ok {n : Int} {T : Trn} (h : TrnIn n T) (hn : n ≤ 1048576) : TrnOk T :=
  ⟨(h.buf.ok hn).1, (h.buf.ok hn).2, by have := h.buf.len; omega, h.set, by have := h.slen; omega⟩
section
variable {B N : Nat} {M : Mgr}
theorem MgrIn.blocks (h : MgrIn B N M) : 1 ≤ M.m.blocks ∧ M.m.blocks ≤ 1048576 := h.vers.1
theorem MgrIn.trn (h : MgrIn B N M) {i : Int} {T : Trn} (hl : lkp M.all i = some T) : TrnIn M.m.blocks T := (h.all _ (lkp_mem hl)).2
theorem MgrIn.key (h : MgrIn B N M) {i : Int} {T : Trn} (hl : lkp M.all i = some T) : 1 ≤ i ∧ i ≤ M.book.last := (h.all _ (lkp_mem hl)).1
theorem MgrIn.mono (h : MgrIn B N M) {N' : Nat} (hn : N ≤ N') : MgrIn B N' M :=
  ⟨h.vers, h.most, by have := h.blast; omega, h.keys, h.blen, h.all, h.q, by have := h.qlen; omega, h.out, by have := h.num; omega, h.last, h.given, fun q hq => Nat.le_trans (h.rds q hq) (by omega)⟩
theorem MgrOk.mono (h : MgrOk N M) {N' : Nat} (hn : N ≤ N') : MgrOk N' M := let ⟨B, a, b⟩ := h; ⟨B, a.mono hn, by omega⟩
theorem MgrIn.book (h : MgrIn B N M) (hN : N ≤ 2 ^ 16) : BookOk M.book := ⟨fun p hp => by have := h.keys p hp; have := h.blast; unfold i64ok; omega, by have := h.blen; omega⟩
theorem MgrIn.wait (h : MgrIn B N M) (hN : N ≤ 2 ^ 16) : WaitOk M := ⟨by have := h.qlen; omega, fun i hi => by
  obtain ⟨T, hT⟩ := Option.isSome_iff_exists.1 (h.q i hi)
  have t := h.trn hT
  exact ⟨T, hT, (t.buf.ok h.blocks.2).1, by have := t.buf.len; omega⟩⟩
theorem opn_lkp {i : Int} {T : Trn} (h : M.opn i = some T) : lkp M.all i = some T ∧ T.state = 1 := by
  unfold Mgr.opn at h
  split at h
  · rename_i T' e
    split at h
    · cases h; exact ⟨e, ‹_›⟩
    · cases h
  · cases h
theorem MgrIn.opn (h : MgrIn B N M) : ∀ i T, M.opn i = some T → TrnIn M.m.blocks T := fun _ _ hT => h.trn (opn_lkp hT).1
theorem MgrIn.waiting (h : MgrIn B N M) {t : Tx} (ht : t ∈ M.waiting) : t.puts.length ≤ 16 ∧ 0 ≤ t.time ∧ t.time ≤ 1099511627776 := by
  unfold Mgr.waiting at ht
  obtain ⟨i, hi, e⟩ := List.mem_filterMap.1 ht
  obtain ⟨T, hT⟩ := Option.isSome_iff_exists.1 (h.q i hi)
  rw [hT] at e
  simp only [Option.map_some, Option.some.injEq] at e
  have t := h.trn hT
  rw [← e]
  exact ⟨by rw [puts_length]; exact t.buf.len, t.time⟩
end
/-! ### What the rules keep -/
theorem mgrOk_new {n last : Int} (hn : 1 ≤ n ∧ n ≤ 1048576) (hl : 0 ≤ last ∧ last ≤ 1099511627776) : MgrOk 0 (Mgr.new n last) :=
  ⟨0, ⟨⟨hn, by simp [Mgr.new], by simp [Mgr.new]⟩, rfl, by simp [Mgr.new], by simp [Mgr.new], by simp [Mgr.new], by simp [Mgr.new], by simp [Mgr.new], by simp [Mgr.new], by simp [Mgr.new], by simp [Mgr.new], by simpa [Mgr.new] using hl, by simpa [Mgr.new] using hl, by simp [Mgr.new]⟩, by simp [Mgr.new]⟩
theorem lkp_put_some {α : Type} {l : List (Int × α)} {k j : Int} {v : α} (h : (lkp l j).isSome) : (lkp (put l k v) j).isSome := by
  rw [lkp_put]; split
  · rfl
  · exact h
/-- Another transaction at a place that is in the book's range. -/
theorem MgrIn.put {B N : Nat} {M : Mgr} (h : MgrIn B N M) {i : Int} {T : Trn} (hi : 1 ≤ i ∧ i ≤ M.book.last) (hT : TrnIn M.m.blocks T) (hr : T.view.reads.length ≤ 16 * N) : MgrIn B N { M with all := Sl.put M.all i T } :=
  ⟨h.vers, h.most, h.blast, h.keys, h.blen, fun q hq => by
    rcases mem_put hq with e | e
    · subst e; exact ⟨hi, hT⟩
    · exact h.all q e, fun j hj => lkp_put_some (h.q j hj), h.qlen, h.out, h.num, h.last, h.given, fun q hq => by
    rcases mem_put hq with e | e
    · subst e; exact hr
    · exact h.rds q e⟩
theorem MgrIn.end_ {B N : Nat} {M : Mgr} (h : MgrIn B N M) (i st code : Int) : MgrIn B N (M.end_ i st code) := by
  unfold Mgr.end_
  split
  · exact h
  · rename_i T hT
    have t := h.trn hT
    have hk := h.key hT
    have h1 := h.put (i := i) (T := { T with state := st, code := code, time := if st = 4 then 0 else T.time }) hk ⟨t.buf, t.set, t.most, t.slen, by simp only; have := t.time; split <;> omega, t.at_, t.vat, t.rdat⟩ (h.rds _ (lkp_mem hT))
    have hb : (M.book.close i).1.most = M.book.most ∧ (M.book.close i).1.last = M.book.last ∧ (M.book.close i).1.times.Sublist M.book.times := by
      unfold Book.close
      split
      · exact ⟨rfl, rfl, List.Sublist.refl _⟩
      · exact ⟨rfl, rfl, delP_sublist _ _⟩
    obtain ⟨b1, b2, b3⟩ := hb
    exact ⟨h1.vers, b1.trans h1.most, by rw [b2]; exact h1.blast, fun p hp => by rw [b2]; exact h1.keys p (b3.subset hp), Nat.le_trans b3.length_le h1.blen, fun q hq => by rw [b2]; exact h1.all q hq, h1.q, h1.qlen, h1.out, h1.num, h1.last, h1.given, h1.rds⟩
theorem end_queue {M : Mgr} {i st code : Int} : (M.end_ i st code).queue = M.queue := (end_rest M i st code).2.1
theorem mem_putsIn : ∀ (l : List Put) (d : List (Int × List UInt8)) {q}, q ∈ putsIn d l → q ∈ d ∨ ∃ x ∈ l, q = (x.lba, x.data)
  | [], _, _, h => .inl h
  | x :: r, d, q, h => by
    rcases mem_putsIn r (Sl.put d x.lba x.data) h with e | ⟨y, hy, e⟩
    · rcases mem_put e with e | e
      · exact .inr ⟨x, by simp, e⟩
      · exact .inl e
    · exact .inr ⟨y, by simp [hy], e⟩
theorem putsIn_length : ∀ (l : List Put) (d : List (Int × List UInt8)), (l.map Put.lba).Nodup → (putsIn d l).length = d.length + newOnes d l
  | [], _, _ => rfl
  | x :: r, d, h => by
    simp only [List.map_cons, List.nodup_cons] at h
    have ih := putsIn_length r (Sl.put d x.lba x.data) h.2
    have e : newOnes (Sl.put d x.lba x.data) r = newOnes d r := by
      unfold newOnes
      congr 1
      refine List.filter_congr fun p hp => ?_
      rw [lkp_put, if_neg (fun e => h.1 (by rw [← e]; exact List.mem_map.2 ⟨p, hp, rfl⟩))]
    show (putsIn (Sl.put d x.lba x.data) r).length = _
    rw [ih, e, put_length]
    unfold newOnes
    rw [List.filter_cons]
    cases lkp d x.lba with
    | none => simp; omega
    | some v => simp
theorem buf_write_in {n : Int} {B : Buf} (h : BufIn n B) (l : List Put) : BufIn n (B.write l).1 := by
  unfold Buf.write
  split
  · exact h
  · split
    · exact h
    · rename_i ho
      split
      · exact h
      · rename_i hl
        split
        · exact h
        · rename_i ht
          split
          · exact h
          · rename_i hm
            refine ⟨h.bl, h.most, ?_, fun q hq => ?_⟩
            · have hd : (l.map Put.lba).Nodup := by simpa [twiceM] using ht
              rw [putsIn_length l B.data hd]
              rw [h.most] at hm
              omega
            · rcases mem_putsIn l B.data hq with e | ⟨x, hx, rfl⟩
              · exact h.data q e
              · have h1 := List.any_eq_false.1 (by simpa using ho : l.any (outOf B.blocks) = false) x hx
                have h2 := List.any_eq_false.1 (by simpa using hl : l.any badLen = false) x hx
                simp only [outOf, h.bl, Bool.or_eq_true, decide_eq_true_eq, not_or] at h1
                simp only [badLen, Bool.not_eq_true', decide_eq_false_iff_not, Decidable.not_not] at h2
                exact ⟨by simp only; omega, h2⟩
theorem fresh_in {B N : Nat} {M : Mgr} (h : MgrIn B N M) : TrnIn M.m.blocks (freshT M) :=
  ⟨⟨rfl, rfl, by simp [freshT], by simp [freshT]⟩, emptySet_ok, rfl, by simp [freshT], by simp [freshT], h.last, rfl, by simp [freshT]⟩
theorem mgrOk_begin {N : Nat} {M : Mgr} (h : MgrOk N M) : MgrOk (N + 1) M.begin.1 := by
  obtain ⟨B, I, hB⟩ := h
  unfold Mgr.begin
  split
  · rename_i ho
    unfold Book.open at ho ⊢
    split at ho
    · simp at ho
    · rename_i h1
      split at ho
      · simp at ho
      · rename_i h2
        rw [if_neg h1, if_neg h2]
        refine ⟨B, ⟨I.vers, I.most, by have := I.blast; simp only; omega, fun p hp => ?_, ?_, fun q hq => ?_, fun j hj => lkp_put_some (I.q j hj), by have := I.qlen; simp only; omega, I.out, by have := I.num; simp only; omega, I.last, I.given, fun q hq => ?_⟩, by simp only; omega⟩
        · have := I.blast
          rcases mem_put hp with e | e
          · subst e; simp only; omega
          · have := I.keys p e; simp only; omega
        · have := put_length_le M.book.times (M.book.last + 1) M.last
          have := I.most
          simp only; omega
        · have := I.blast
          rcases mem_put hq with e | e
          · subst e; exact ⟨by simp only; omega, fresh_in (M := M) I⟩
          · obtain ⟨a, b⟩ := I.all q e; exact ⟨by simp only; omega, b⟩
        · rcases mem_put hq with e | e
          · subst e; simp [freshT]
          · have := I.rds q e; omega
  · exact ⟨B, I.mono (by omega), by simp only; omega⟩
theorem mgrOk_write {N : Nat} {M : Mgr} (h : MgrOk N M) (i : Int) (l : List Put) : MgrOk N (M.write i l).1 := by
  obtain ⟨B, I, hB⟩ := h
  unfold Mgr.write
  split
  · exact ⟨B, I, hB⟩
  · rename_i T hT
    have t := I.opn _ _ hT
    exact ⟨B, I.put (I.key (opn_lkp hT).1) ⟨buf_write_in t.buf l, t.set, t.most, t.slen, t.time, t.at_, t.vat, t.rdat⟩ (I.rds _ (lkp_mem (opn_lkp hT).1)), hB⟩
theorem mgrOk_end {N : Nat} {M : Mgr} (h : MgrOk N M) (i st code : Int) : MgrOk N (M.end_ i st code) := by
  obtain ⟨B, I, hB⟩ := h
  exact ⟨B, I.end_ i st code, by rw [end_queue]; exact hB⟩
theorem mgrOk_abort {N : Nat} {M : Mgr} (h : MgrOk N M) (i : Int) : MgrOk N (M.abort i).1 := by
  unfold Mgr.abort
  split
  · exact h
  · exact mgrOk_end h _ _ _
theorem mgrOk_commit {N : Nat} {M : Mgr} (h : MgrOk N M) (i : Int) : MgrOk (N + 1) (M.commit i).1 := by
  unfold Mgr.commit
  split
  · exact h.mono (by omega)
  · rename_i T hT
    have hl := (opn_lkp hT).1
    split
    · obtain ⟨B, I, hB⟩ := h
      have t := I.trn hl
      refine MgrOk.mono (mgrOk_end (N := N) ⟨B, I.put (I.key hl) (T := { T with time := T.at_ }) ⟨t.buf, t.set, t.most, t.slen, t.at_, t.at_, t.vat, t.rdat⟩ (I.rds _ (lkp_mem hl)), hB⟩ _ _ _) (by omega)
    · split
      · exact (mgrOk_end h _ _ _).mono (by omega)
      · rename_i hm
        obtain ⟨B, I, hB⟩ := h
        have t := I.trn hl
        have hg : ¬ (1099511627776 : Int) ≤ M.given := fun hg => hm (by
          unfold Mgr.may
          split
          · simp
          · split
            · assumption
            · first | simp | (rw [if_pos hg]; simp))
        have hg0 := I.given
        have h1 := I.put (I.key hl) (T := { T with state := 2, time := M.given + 1 }) ⟨t.buf, t.set, t.most, t.slen, by simp only; omega, t.at_, t.vat, t.rdat⟩ (I.rds _ (lkp_mem hl))
        refine ⟨B, ⟨h1.vers, h1.most, by have := h1.blast; simp only at this ⊢; omega, h1.keys, h1.blen, h1.all, fun j hj => ?_, by have := I.qlen; simp; omega, by have := I.out; simp; omega, by have := I.num; simp only; omega, h1.last, by simp only; omega, fun q hq => by have := h1.rds q hq; omega⟩, by simp; omega⟩
        rcases List.mem_append.1 hj with hj | hj
        · exact h1.q j hj
        · simp only [List.mem_singleton] at hj; subst hj
          simp only [lkp_put_self, Option.isSome_some]
theorem mgrOk_batch {N : Nat} {M : Mgr} (h : MgrOk N M) (hN : N ≤ 2 ^ 16) : MgrOk N M.batch.1 := by
  obtain ⟨B, I, hB⟩ := h
  unfold Mgr.batch
  split
  · exact ⟨B, I, hB⟩
  · split
    · exact ⟨B, I, hB⟩
    · have hf := formL_bounds M.waiting 0 0
      have hw := waiting_len (I.wait hN)
      exact ⟨B, ⟨I.vers, I.most, I.blast, I.keys, I.blen, I.all, I.q, I.qlen, by simp only; omega, I.num, I.last, I.given, I.rds⟩, hB⟩
theorem apply_blocks (m : XMap) (t : Tx) : (m.apply t).1.blocks = m.blocks := by
  unfold XMap.apply; repeat' split
  all_goals rfl
theorem doneOne_in {B N : Nat} {M : Mgr} {code : Int} {x : Int × Tx} (I : MgrIn B N M) (hx : x.2.puts.length ≤ 16 ∧ 0 ≤ x.2.time ∧ x.2.time ≤ 1099511627776) : MgrIn (B + 1) N (doneOne code M x) := by
  have up : ∀ {M : Mgr}, MgrIn B N M → MgrIn (B + 1) N M := fun I => ⟨by
    obtain ⟨a, b, c⟩ := I.vers
    exact ⟨a, Nat.le_trans b (Nat.mul_le_mul_right _ (Nat.le_succ B)), fun q hq => by obtain ⟨h1, h2, h3, h4⟩ := c q hq; exact ⟨h1, h2, by omega, h4⟩⟩, I.most, I.blast, I.keys, I.blen, I.all, I.q, I.qlen, I.out, I.num, I.last, I.given, I.rds⟩
  unfold doneOne
  split
  · exact (up I).end_ _ _ _
  · refine MgrIn.end_ (M := { M with m := (M.m.apply x.2).1, last := x.2.time }) ⟨apply_ok I.vers (by omega), I.most, I.blast, I.keys, I.blen, fun q hq => ?_, I.q, I.qlen, I.out, I.num, hx.2, I.given, I.rds⟩ _ _ _
    obtain ⟨a, b⟩ := I.all q hq
    exact ⟨a, by simp only; rw [apply_blocks]; exact b⟩
theorem foldl_done_in {code : Int} {N : Nat} : ∀ (l : List (Int × Tx)) {B : Nat} {M : Mgr}, MgrIn B N M → (∀ x ∈ l, x.2.puts.length ≤ 16 ∧ 0 ≤ x.2.time ∧ x.2.time ≤ 1099511627776) → MgrIn (B + l.length) N (l.foldl (doneOne code) M)
  | [], _, _, I, _ => I
  | x :: r, B, M, I, hn => by
    have := foldl_done_in (code := code) r (doneOne_in (code := code) I (hn x (by simp))) fun y hy => hn y (by simp [hy])
    simp only [List.foldl_cons, List.length_cons]
    rw [show B + (r.length + 1) = B + 1 + r.length from by omega]
    exact this
theorem mgrOk_done {N : Nat} {M : Mgr} (h : MgrOk N M) (hN : N ≤ 2 ^ 16) (code : Int) : MgrOk (N + 1) (M.done code).1 := by
  obtain ⟨B, I, hB⟩ := h
  unfold Mgr.done
  split
  · exact ⟨B, I.mono (by omega), by simp only; omega⟩
  · have hw := waiting_len (I.wait hN)
    have hz : ((M.queue.take M.out.toNat).zip (M.waiting.take M.out.toNat)).length = M.out.toNat := by
      have := I.out
      simp only [List.length_zip, List.length_take, hw]; omega
    have J := foldl_done_in (code := code) ((M.queue.take M.out.toNat).zip (M.waiting.take M.out.toNat)) I fun x hx => I.waiting (List.mem_of_mem_take (List.of_mem_zip hx).2)
    have hr := (foldl_done code ((M.queue.take M.out.toNat).zip (M.waiting.take M.out.toNat)) M).1
    rw [hz] at J
    simp only []
    generalize ((M.queue.take M.out.toNat).zip (M.waiting.take M.out.toNat)).foldl (doneOne code) M = M1 at J hr ⊢
    obtain ⟨r1, r2, r3⟩ := hr
    have ho := I.out
    have hd : (M.queue.drop M.out.toNat).length = M.queue.length - M.out.toNat := List.length_drop
    refine ⟨B + M.out.toNat, ⟨J.vers, J.most, by have := J.blast; simp only; omega, J.keys, J.blen, J.all, fun j hj => ?_, by have := I.qlen; simp only; rw [hd]; omega, by simp, by have := I.num; simp only; split <;> omega, J.last, J.given, fun q hq => by have := J.rds q hq; omega⟩, by simp only; rw [hd]; omega⟩
    exact J.q j (by rw [r1]; exact List.mem_of_mem_drop hj)
theorem mgrOk_ro {N : Nat} {M : Mgr} (h : MgrOk N M) (b : Bool) : MgrOk N { M with read := b } := by
  obtain ⟨B, I, hB⟩ := h
  exact ⟨B, ⟨I.vers, I.most, I.blast, I.keys, I.blen, I.all, I.q, I.qlen, I.out, I.num, I.last, I.given, I.rds⟩, hB⟩
theorem add_in {S : XSet} {l : List Ext} (h : (S.l.length : Int) ≤ S.most) : (S.add l).1.most = S.most ∧ ((S.add l).1.l.length : Int) ≤ S.most := by
  unfold XSet.add
  repeat' split
  all_goals first | exact ⟨rfl, h⟩ | exact ⟨rfl, by simp only; omega⟩
theorem read_in {B : Nat} {M : XMap} {T : Trn} (ok : XOk B M) (t : TrnIn M.blocks T) (e : Ext) : TrnIn M.blocks { T with view := (T.view.read M T.buf e).1 } ∧ (T.view.read M T.buf e).1.reads.length ≤ T.view.reads.length + 16 := by
  have same : TrnIn M.blocks { T with view := T.view } ∧ T.view.reads.length ≤ T.view.reads.length + 16 := ⟨t, by omega⟩
  unfold View.read
  split
  · exact same
  · split
    · exact same
    · split
      · exact same
      · have hm := t.most
        have hs := t.slen
        have ha := add_in (S := T.view.set) (l := [e]) (by omega)
        refine ⟨⟨t.buf, set_add_ok t.set (by simp; omega), ha.1.trans hm, by simp only; omega, t.time, t.at_, t.vat, fun x hx => ?_⟩, ?_⟩
        · rcases List.mem_append.1 hx with h | h
          · exact t.rdat x h
          · obtain ⟨k, _, rfl⟩ := List.mem_map.1 h
            exact seen_len ok fun q hq => (t.buf.data q hq).2
        · simp only [List.length_append, List.length_map, blocksOf_length]; omega
theorem mgrOk_read {N : Nat} {M : Mgr} (h : MgrOk N M) (i : Int) (e : Ext) : MgrOk (N + 1) (M.readE i e).1 := by
  obtain ⟨B, I, hB⟩ := h
  unfold Mgr.readE
  split
  · exact ⟨B, I.mono (by omega), by simp only; omega⟩
  · rename_i T hT
    have hl := (opn_lkp hT).1
    obtain ⟨a, b⟩ := read_in I.vers (I.trn hl) e
    have := I.rds _ (lkp_mem hl)
    exact ⟨B, (I.mono (N' := N + 1) (by omega)).put (I.key hl) a (by simp only at this ⊢; omega), by simp only; omega⟩
/-! ### The calls' contracts at any manager that the rules make -/
section
variable {N : Nat} {p : Option Addr} {M : Mgr} {R : HP} {w : World}
theorem ok_begin {K : Int × Int → World → Prop} (h : Sat (mgrA p M * R) w) (ok : MgrOk N M) (hN : N ≤ 2 ^ 16) (hk : ∀ w', MgrOk (N + 1) M.begin.1 → Sat (mgrA p M.begin.1 * R) w' → K M.begin.2 w') : c_txn_Manager_Begin p w K := by
  obtain ⟨B, I, hB⟩ := ok
  exact mgr_begin h I.blocks (I.book hN) (by have := I.blast; omega) fun w' h' => hk w' (mgrOk_begin ⟨B, I, hB⟩) h'
theorem ok_write {i : Int} {s : SV} {l : List Put} {K : Int → World → Prop} (h : Sat (mgrA p M * R) w) (ok : MgrOk N M) (hl : ∀ w', Sat R w' → putsOn (hp w') s l) (hn : l.length ≤ 2 ^ 40) (hk : ∀ w', MgrOk N (M.write i l).1 → Sat (mgrA p (M.write i l).1 * R) w' → K (M.write i l).2 w') : c_txn_Manager_Write p i s w K := by
  obtain ⟨B, I, hB⟩ := ok
  exact mgr_write h hl hn (fun T hT => by have := (I.opn i T hT).buf.len; omega) fun w' h' => hk w' (mgrOk_write ⟨B, I, hB⟩ i l) h'
theorem ok_abort {i : Int} {K : Int → World → Prop} (h : Sat (mgrA p M * R) w) (ok : MgrOk N M) (hk : ∀ w', MgrOk N (M.abort i).1 → Sat (mgrA p (M.abort i).1 * R) w' → K (M.abort i).2 w') : c_txn_Manager_Abort p i w K :=
  mgr_abort h fun w' h' => hk w' (mgrOk_abort ok i) h'
theorem ok_commit {i : Int} {K : Int → World → Prop} (h : Sat (mgrA p M * R) w) (ok : MgrOk N M) (hN : N ≤ 2 ^ 16) (hk : ∀ w', MgrOk (N + 1) (M.commit i).1 → Sat (mgrA p (M.commit i).1 * R) w' → K (M.commit i).2 w') : c_txn_Manager_Commit p i w K := by
  obtain ⟨B, I, hB⟩ := ok
  exact mgr_commit (B := B) h I.vers (by omega) (I.wait hN) (fun T hT => (I.opn i T hT).ok I.blocks.2) (by have := I.given; omega) fun w' h' => hk w' (mgrOk_commit ⟨B, I, hB⟩ i) h'
theorem ok_batch {K : (Int × SV) × Int → World → Prop} (h : Sat (mgrA p M * R) w) (ok : MgrOk N M) (hN : N ≤ 2 ^ 16) (hk : ∀ s' w', MgrOk N M.batch.1 → Sat (batchA s' M.batch.2.1.2 * (mgrA p M.batch.1 * R)) w' → K ((M.batch.2.1.1, s'), M.batch.2.2) w') : c_txn_Manager_Batch p w K := by
  obtain ⟨B, I, hB⟩ := ok
  exact mgr_batch h (I.wait hN) (by have := I.num; omega) fun s' w' h' => hk s' w' (mgrOk_batch ⟨B, I, hB⟩ hN) h'
theorem ok_done {code : Int} {K : Int → World → Prop} (h : Sat (mgrA p M * R) w) (ok : MgrOk N M) (hN : N ≤ 2 ^ 16) (hk : ∀ w', MgrOk (N + 1) (M.done code).1 → Sat (mgrA p (M.done code).1 * R) w' → K (M.done code).2 w') : c_txn_Manager_Done p code w K := by
  obtain ⟨B, I, hB⟩ := ok
  exact mgr_done (B := B) h I.vers (by omega) (I.wait hN) (by have := I.qlen; omega) (fun t ht => by have := (I.waiting ht).1; omega) I.out (by have := I.num; omega) fun w' h' => hk w' (mgrOk_done ⟨B, I, hB⟩ hN code) h'
theorem ok_read {i : Int} {e : Ext} {K : SV × Int → World → Prop} (h : Sat (mgrA p M * R) w) (ok : MgrOk N M) (hN : N ≤ 2 ^ 16) (hk : ∀ s w', MgrOk (N + 1) (M.readE i e).1 → Sat (byteRow s (M.readE i e).2.1 * (mgrA p (M.readE i e).1 * R)) w' → K (s, (M.readE i e).2.2) w') : c_txn_Manager_Read p i e.first e.len w K := by
  obtain ⟨B, I, hB⟩ := ok
  refine mgr_read (n := B) h I.vers (by omega) (fun T hT => ?_) fun s w' h' => hk s w' (mgrOk_read ⟨B, I, hB⟩ i e) h'
  have t := I.opn i T hT
  have hr := I.rds _ (lkp_mem (opn_lkp hT).1)
  exact ⟨fun q hq => (t.buf.data q hq).2, t.set, by have := t.slen; omega, by simp only at hr; omega⟩
theorem ok_dump {K : SV → World → Prop} (h : Sat (mgrA p M * R) w) (ok : MgrOk N M) (hN : N ≤ 2 ^ 16) (hk : ∀ s w', Sat (putsA s M.m.dump * whole w) w' → K s w') : c_txn_Manager_Dump p w K := by
  obtain ⟨B, I, hB⟩ := ok
  exact mgr_dump (B := B) h I.vers (by omega) hk
theorem ok_ro {v : Bool} {K : Unit → World → Prop} (h : Sat (mgrA p M * R) w) (ok : MgrOk N M) (hk : ∀ w', MgrOk N { M with read := v } → Sat (mgrA p { M with read := v } * R) w' → K () w') : c_txn_Manager_ReadOnly p v w K :=
  mgr_ro h fun w' h' => hk w' (mgrOk_ro ok v) h'
end
end Go.Proofs.YtbolgpjcmchfoaaGreat
