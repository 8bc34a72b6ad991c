/- Contracts: what a block was at a time; what was written of it. -/
import Derived.Test.YtbolgpjcmchfoaaGreatCq
import Derived.Test.YtbolgpjcmchfoaaGreatMh
namespace Go.Proofs.YtbolgpjcmchfoaaGreat
open Go Go.Vc Go.Sl Go.Mo
theorem clone_row {s : SV} {l : List UInt8} {R : HP} {w : World} {K : SV → World → Prop} (h : Sat R w) (hl : bytesOn (hp w) s l) (hc : l.length ≤ 2 ^ 40) (hk : ∀ s' w', Sat (byteRow s' l * R) w' → K s' w') : c_slices_Clone_byte_byte s w K :=
  clone_bytes h hl hc fun s' w' _ h' => hk s' w' h'
theorem bytesOn_none {h : Heap} : bytesOn h ⟨none, 0, 0⟩ [] := ⟨rfl, fun _ => rfl, fun ad e => by cases e⟩
theorem putsOn_none {h : Heap} : putsOn h ⟨none, 0, 0⟩ [] := ⟨rfl, fun i hi => by simp at hi⟩
theorem buf_get {p : Option Addr} {B : Buf} {k : Int} {R : HP} {w : World} {K : SV × Bool → World → Prop} (h : Sat (bufA p B * R) w) (hd : ∀ q ∈ B.data, q.2.length ≤ 2 ^ 40)
    (hk : ∀ s w', Sat (byteRow s ((lkp B.data k).getD []) * whole w) w' → K (s, (lkp B.data k).isSome) w') : c_wbuf_Buf_Get p k w K := by
  obtain ⟨b, rfl⟩ := buf_ptr h
  obtain ⟨r, h1⟩ := bufA_open h
  refine wbuf_Buf_Get_go (bsplit_iff.2 ⟨fun e => (by cases e), fun _ => ?_⟩)
  rw [onP_some, add_mk]
  refine ⟨some r, (objA_cells h1).1 2, rfl, ?_⟩
  rw [onM_some]
  obtain ⟨es, hcl, _, hf⟩ := slmapA_get h1.right
  rcases hf k with ⟨e1, e2⟩ | ⟨s, d, e1, e2, e3⟩
  · refine ⟨es, hcl, ⟨none, 0, 0⟩, by rw [e2]; rfl, clone_row (sat_whole w) bytesOn_none (by simp) fun s' w' h' => ?_⟩
    have := hk s' w' (by rw [e1]; exact h')
    rw [e1] at this; rw [e2]; exact this
  · refine ⟨es, hcl, s, by rw [e2]; rfl, clone_row (sat_whole w) (byteRow_on e3) (hd _ (lkp_mem e1)) fun s' w' h' => ?_⟩
    have := hk s' w' (by rw [e1]; exact h')
    rw [e1] at this; rw [e2]; exact this
/-- Where a block's versions lie. -/
theorem vers_at {b r : Nat} {M : XMap} {R : HP} {w : World} (h : Sat (objA (some ⟨b, 0, none⟩) [.int .i64 M.blocks, .map (some r), .int .i64 M.last] * (slmapA putsA r M.vers * R)) w) (lba : Int) :
    ∃ es, (∃ cl, mapAt w r .i64 es cl) ∧ ∃ s : SV, (findE es lba).getD (.slice none 0 0) = .slice s.a s.n s.c ∧ putsOn (hp w) s (versOf M.vers lba) := by
  obtain ⟨es, hcl, _, hf⟩ := slmapA_get h.right
  refine ⟨es, hcl, ?_⟩
  rcases hf lba with ⟨e1, e2⟩ | ⟨s, d, e1, e2, e3⟩
  · exact ⟨⟨none, 0, 0⟩, by rw [e2]; rfl, by unfold versOf; rw [e1]; exact putsOn_none⟩
  · exact ⟨s, by rw [e2]; rfl, by unfold versOf; rw [e1]; exact putsA_on e3⟩
theorem upTo_eq (l : List Put) (t : Int) : upTo l t = (l.take (upTo l t).length).reverse := by
  have h : upTo l t <:+ l.reverse := List.dropWhile_suffix _
  have h2 : (upTo l t).reverse <+: l := by have := List.reverse_prefix.2 h; rwa [List.reverse_reverse] at this
  have h3 := List.prefix_iff_eq_take.1 h2
  rw [List.length_reverse] at h3
  rw [← h3, List.reverse_reverse]
theorem upTo_head {l : List Put} {t : Int} {v : Put} {r : List Put} (h : upTo l t = v :: r) : ∃ hi : r.length < l.length, l[r.length] = v := by
  have h1 := upTo_eq l t
  have h2 := upTo_length_le l t
  rw [h] at h1 h2
  simp only [List.length_cons] at h1 h2
  refine ⟨by omega, ?_⟩
  rw [List.take_succ_eq_append_getElem (by omega), List.reverse_append] at h1
  simp only [List.reverse_cons, List.reverse_nil, List.nil_append, List.singleton_append, List.cons.injEq] at h1
  exact h1.1.symm
theorem at_c {p : Option Addr} {M : XMap} {lba t : Int} {R : HP} {w : World} {K : Int → World → Prop} (h : Sat (xmapA p M * R) w) (hn : (versOf M.vers lba).length ≤ 2 ^ 40) (hk : K (((upTo (versOf M.vers lba) t).length : Int) - 1) w) : c_extmap_Map_at p lba t w K := by
  obtain ⟨b, rfl⟩ := xmap_ptr h
  obtain ⟨r, h1⟩ := xmapA_open h
  obtain ⟨es, hcl, s, hs, hl⟩ := vers_at h1 lba
  refine extmap_Map_at_go ?_
  unfold f_extmap_Map_at
  rw [onP_some, add_mk]
  refine ⟨some r, (objA_cells h1).1 1, rfl, ?_⟩
  rw [onM_some]
  refine ⟨es, hcl, s, hs, ?_⟩
  rw [withI_iff]
  generalize versOf M.vers lba = l at hn hk hl
  have hsn := hl.1
  refine loop_i (fun (x : Int) w' => ∃ i : Nat, x = (i : Int) - 1 ∧ i ≤ l.length ∧ w' = w ∧ upTo (l.take i) t = upTo l t) (fun x _ => (x + 1).toNat) ⟨l.length, by rw [hsn, wrap_of (by omega) (by omega)], Nat.le_refl _, rfl, by rw [List.take_length]⟩ ?_
  rintro x w1 ⟨i, rfl, hi, rfl, hu⟩
  refine bsplit_decide.2 ⟨fun h0 => ?_, fun h0 => ?_⟩
  · obtain ⟨j, rfl⟩ : ∃ j, i = j + 1 := ⟨i - 1, by omega⟩
    have hj : j < l.length := by omega
    obtain ⟨ad, d, ha, hc1, _, _⟩ := hl.2 j hj
    have e1 : ((j + 1 : Nat) : Int) - 1 = (j : Int) := by omega
    rw [e1]
    have htk : l.take (j + 1) = l.take j ++ [l[j]] := List.take_succ_eq_append_getElem hj
    rw [htk, upTo_snoc] at hu
    refine ⟨by omega, by omega, onP_i ha ⟨l[j].lba, hc1, bsplit_decide.2 ⟨fun hle => ?_, fun hle => ?_⟩⟩⟩
    · rw [if_neg (by omega)] at hu
      rw [← hu] at hk
      simpa [Nat.min_eq_left (Nat.le_of_lt hj)] using hk
    · rw [if_pos (by omega)] at hu
      rw [wrap_of (by omega) (by omega)]
      exact ⟨⟨j, rfl, by omega, rfl, hu⟩, by omega⟩
  · obtain rfl : i = 0 := by omega
    have : upTo (l.take 0) t = [] := by simp [upTo]
    rw [this] at hu
    rw [← hu] at hk
    simpa using hk
theorem inB_block {M : XMap} {b r : Nat} {lba : Int} {R : HP} {w : World} {K : Bool → World → Prop} (h : Sat (objA (some ⟨b, 0, none⟩) [.int .i64 M.blocks, .map (some r), .int .i64 M.last] * R) w) (hk : K (inB M lba) w) : c_extmap_Map_block (some ⟨b, 0, none⟩) lba w K :=
  block_some ((objA_cells h).1 0) hk
theorem zeros_row : (zrow [Value.int .u8 0] (40 : Int).toNat) = bytesV zeros := by kernel_rfl
theorem get_c {p : Option Addr} {M : XMap} {lba t : Int} {R : HP} {w : World} {K : SV × Int → World → Prop} (h : Sat (xmapA p M * R) w) (hn : (versOf M.vers lba).length ≤ 2 ^ 40) (hd : ∀ x ∈ versOf M.vers lba, x.data.length ≤ 2 ^ 40) (hin : inB M lba = true)
    (hk : ∀ s w', Sat (byteRow s (M.get lba t) * whole w) w' → K (s, timeAt (versOf M.vers lba) t) w') : c_extmap_Map_Get p lba t w K := by
  obtain ⟨b, rfl⟩ := xmap_ptr h
  obtain ⟨r, h1⟩ := xmapA_open h
  refine extmap_Map_Get_go ?_
  unfold f_extmap_Map_Get
  refine inB_block h1 ?_
  rw [hin]
  refine bsplit_iff.2 ⟨fun e => (by cases e), fun _ => ?_⟩
  refine at_c h hn ?_
  obtain ⟨es, hcl, s, hs, hl⟩ := vers_at h1 lba
  unfold XMap.get valAt timeAt at hk
  cases hu : upTo (versOf M.vers lba) t with
  | nil =>
    rw [hu] at hk
    refine bsplit_decide.2 ⟨fun _ => ?_, fun e => absurd (by simp) e⟩
    refine ⟨by omega, by omega, by omega, by omega, ?_⟩
    rw [withW_iff]
    refine hk _ _ ?_
    have h2 := (sat_whole w).alloc (.cells (zrow [.int .u8 0] (40 : Int).toNat).toArray 5)
    rw [zeros_row] at h2 ⊢
    exact ownS_mk (sp := []) (by rw [List.append_nil]; exact h2) (by simp [bytesV, zeros]) (Nat.le_refl _) (by simp [bytesV, zeros])
  | cons v q =>
    rw [hu] at hk
    obtain ⟨hi, hv⟩ := upTo_head hu
    refine bsplit_decide.2 ⟨fun e => absurd e (by simp), fun _ => ?_⟩
    rw [onP_some, add_mk]
    refine ⟨some r, (objA_cells h1).1 1, rfl, ?_⟩
    rw [onM_some]
    have e1 : (((v :: q).length : Nat) : Int) - 1 = (q.length : Int) := by simp
    rw [e1]
    refine ⟨es, hcl, s, hs, by omega, by have := hl.1; omega, ?_⟩
    obtain ⟨ad, d, ha, hc1, hc2, hd4⟩ := hl.2 q.length hi
    rw [hv] at hc1 hd4
    refine onP_i ha ⟨(v.lba, d), ⟨hc1, hc2⟩, ?_⟩
    refine box2 (sat_whole w) fun w15 k15 h15 => ?_
    rw [withW_iff]
    have hc := objA_cells h15
    have hdl : v.data.length ≤ 2 ^ 40 := hd _ (upTo_mem (by rw [hu]; simp))
    refine ⟨fun w' => Keep w15 w', Keep.drew _, d, fun w' k' => by rw [add_mk]; exact keep_cell k' (hc.1 1), v.lba, fun w' k' => keep_cell k' (hc.1 0), ?_⟩
    refine clone_row (sat_whole w15.drew) (bytesOn_le (keep_le (k15.trans (Keep.drew _))) hd4) hdl fun s' w' h' => ⟨(Keep.drew _).trans (Keep.whole h'.right), ?_⟩
    have kk : Keep w w' := k15.trans ((Keep.drew _).trans (Keep.whole h'.right))
    refine hk s' w' ?_
    exact Sat.frame (A := byteRow s' v.data) (w := w15.drew) h' ((k15.trans (Keep.drew _)).sat (sat_whole w))
end Go.Proofs.YtbolgpjcmchfoaaGreat
