/- Contracts of the write buffer: what it takes in. -/
import Derived.Test.YtbolgpjcmchfoaaGreatCb
namespace Go.Proofs.YtbolgpjcmchfoaaGreat
open Go Go.Vc Go.Sl Go.Mo
/-- A variable of two cells that is laid and written at once. -/
theorem box2 {z1 z2 v1 v2 : Value} {t : Nat} {R : HP} {w : World} {K : World → Prop} (h : Sat R w) (hk : ∀ w', Keep w w' → Sat (objA (some ⟨w.heap.size, 0, none⟩) [v1, v2] * R) w' → K w') :
    withW (w.alloc (.cells #[z1, z2] t)) fun w7 => (((∃ u, w7.cell? (⟨w.heap.size, 0, none⟩ : Addr) = some u) ∧ w7.frozen? (⟨w.heap.size, 0, none⟩ : Addr) = false) ∧ ((∃ u, w7.cell? ((⟨w.heap.size, 0, none⟩ : Addr).add 1) = some u) ∧ w7.frozen? ((⟨w.heap.size, 0, none⟩ : Addr).add 1) = false)) ∧ (true = true) ∧
      withW ((w7.setCell (⟨w.heap.size, 0, none⟩ : Addr) v1).setCell ((⟨w.heap.size, 0, none⟩ : Addr).add 1) v2) K := by
  have h1 : Sat (objA (some ⟨w.heap.size, 0, none⟩) [z1, z2] * R) (w.alloc (.cells [z1, z2].toArray t)) := objA_new h
  have hw : Sat (objA (some ⟨w.heap.size, 0, none⟩) [z1, z2] * whole w) (w.alloc (.cells [z1, z2].toArray t)) := objA_new (sat_whole w)
  obtain ⟨hc, hf⟩ := objA_cells h1
  rw [withW_iff, add_mk, Nat.zero_add]
  refine ⟨⟨⟨⟨z1, hc 0⟩, hf 0⟩, ⟨z2, hc 1⟩, hf 1⟩, rfl, ?_⟩
  have h2 := objA_set (objA_set h1 0 v1) 1 v2
  have hw2 := objA_set (objA_set hw 0 v1) 1 v2
  exact hk _ (Keep.whole hw2.right) h2
theorem take_succ_map {l : List Put} {i : Nat} (h : i < l.length) : (l.take (i + 1)).map Put.lba = (l.take i).map Put.lba ++ [l[i].lba] := by
  rw [List.take_succ_eq_append_getElem h, List.map_append, List.map_cons, List.map_nil]
theorem twice_c {s : SV} {l : List Put} {w : World} {K : Bool → World → Prop} (hl : putsOn (hp w) s l) (hn : l.length ≤ 2 ^ 60) (hk : ∀ w', Keep w w' → K (twiceM l) w') : c_wbuf_twice s w K := by
  refine wbuf_twice_go ?_
  have hsn := hl.1
  unfold f_wbuf_twice
  rw [withW_iff]
  have h0 : Sat (mapA w.heap.size [] * whole w) (w.alloc (.map #[] 0)) := mapA_new (sat_whole w)
  generalize w.heap.size = b at h0 ⊢
  refine loop_i (fun (x : Bool × Int) w' => ∃ (i : Nat) (m : List (Int × Value)), x.2 = i ∧ i ≤ l.length ∧ Sat (mapA b m * whole w) w' ∧ ((l.take i).map Put.lba).Nodup ∧ ∀ k, lkp m k = if k ∈ (l.take i).map Put.lba then some (.int .i64 1) else none) (fun x _ => l.length - x.2.toNat)
    ⟨0, [], rfl, by omega, h0, by simp, fun k => by simp [lkp]⟩ ?_
  rintro ⟨y, x⟩ w1 ⟨i, m, hx, hi, hw, hnd, hm⟩
  simp only at hx; subst hx
  have kw : Keep w w1 := Keep.whole hw.right
  refine bsplit_decide.2 ⟨fun hlt => ?_, fun hge => ?_⟩
  · have hlt' : i < l.length := by simp at hlt; omega
    obtain ⟨ad, d, ha, h1, h2, _⟩ := (putsOn_le (keep_le kw) hl).2 i hlt'
    refine ⟨by omega, by omega, onP_i ha ⟨(l[i].lba, d), ⟨h1, h2⟩, box2 hw fun w2 _ hw2 => ?_⟩⟩
    obtain ⟨hc, _⟩ := objA_cells hw2
    have hwm : Sat (mapA b m * (objA (some ⟨w1.heap.size, 0, none⟩) [.int .i64 l[i].lba, .slice d.a d.n d.c] * whole w)) w2 := hw2.eq (by ac_rfl)
    refine ⟨l[i].lba, hc 0, rfl, ?_⟩
    have hx : ∃ x : Int, (lkp m l[i].lba).getD (.int .i64 0) = .int .i64 x ∧ x = if l[i].lba ∈ (l.take i).map Put.lba then 1 else 0 := by
      rw [hm]; split
      · exact ⟨1, rfl, rfl⟩
      · exact ⟨0, rfl, rfl⟩
    obtain ⟨x, hx, hxe⟩ := hx
    have hx1 : 0 ≤ x ∧ x ≤ 1 := by split at hxe <;> omega
    obtain ⟨es, hcl, hf, _⟩ := mapA_get hwm
    refine ⟨es, hcl, x, by rw [hf]; exact hx, rfl, ?_⟩
    obtain ⟨es2, cl2, hm2, _, hw3⟩ := mapA_put hwm l[i].lba (.int .i64 (IntKind.i64.wrap (x + 1)))
    refine ⟨es2, cl2, hm2, gen_w hw3 fun w3 hw3 => ?_⟩
    have hwo : Sat (objA (some ⟨w1.heap.size, 0, none⟩) [.int .i64 l[i].lba, .slice d.a d.n d.c] * (mapA b (put m l[i].lba (.int .i64 (IntKind.i64.wrap (x + 1)))) * whole w)) w3 := hw3.eq (by ac_rfl)
    obtain ⟨hc3, _⟩ := objA_cells hwo
    refine ⟨l[i].lba, hc3 0, rfl, ?_⟩
    obtain ⟨es4, hcl4, hf4, _⟩ := mapA_get hw3
    refine ⟨es4, hcl4, x + 1, by rw [hf4, lkp_put, wrap_of (by omega) (by omega)]; simp, bsplit_decide.2 ⟨fun h => ?_, fun h => ?_⟩⟩
    · have hnew : l[i].lba ∉ (l.take i).map Put.lba := by
        intro h'; rw [if_pos h'] at hxe; omega
      have e1 : IntKind.i64.wrap ((i : Int) + 1) = ((i + 1 : Nat) : Int) := by rw [wrap_of (by omega) (by omega)]; omega
      refine ⟨⟨i + 1, _, e1, by omega, (hw3.eq (by ac_rfl : _ = objA (some ⟨w1.heap.size, 0, none⟩) [.int .i64 l[i].lba, .slice d.a d.n d.c] * (mapA b (put m l[i].lba (.int .i64 (IntKind.i64.wrap (x + 1)))) * whole w))).right, ?_, fun k => ?_⟩, by simp only [e1]; omega⟩
      · rw [take_succ_map hlt', List.nodup_append]
        exact ⟨hnd, by simp, fun a ha b hb => by simp at hb; subst hb; exact fun e => hnew (e ▸ ha)⟩
      · rw [take_succ_map hlt', lkp_put, wrap_of (by omega) (by omega), h, hm]
        simp only [List.mem_append, List.mem_singleton]
        by_cases hk' : k = l[i].lba
        · simp [hk']
        · simp [hk']
    · have : twiceM l = true := by
        have hin : l[i].lba ∈ (l.take i).map Put.lba := by
          refine Classical.byContradiction fun h' => ?_
          rw [if_neg h'] at hxe; omega
        unfold twiceM
        simp only [Bool.not_eq_true', decide_eq_false_iff_not]
        intro hnd'
        have h5 : ((l.take (i + 1)).map Put.lba).Nodup := hnd'.sublist ((List.take_sublist _ _).map _)
        rw [take_succ_map hlt', List.nodup_append] at h5
        exact h5.2.2 _ hin _ (by simp) rfl
      rw [← this]
      exact hk _ (Keep.whole hw3.right.right)
  · have : twiceM l = false := by
      have : i = l.length := by simp at hge; omega
      subst this
      rw [List.take_length] at hnd
      simp [twiceM, hnd]
    rw [← this]
    exact hk _ kw
theorem putsIn_take {d : List (Int × List UInt8)} {l : List Put} {i : Nat} (h : i < l.length) : putsIn d (l.take (i + 1)) = put (putsIn d (l.take i)) l[i].lba l[i].data := by
  unfold putsIn
  rw [List.take_succ_eq_append_getElem h, List.foldl_append]; rfl
theorem newOnes_take {d : List (Int × List UInt8)} {l : List Put} {i : Nat} (h : i < l.length) : newOnes d (l.take (i + 1)) = newOnes d (l.take i) + if (lkp d l[i].lba).isNone then 1 else 0 := by
  unfold newOnes
  rw [List.take_succ_eq_append_getElem h, List.filter_append, List.length_append]
  congr 1
  simp only [List.filter_cons, List.filter_nil]
  split <;> simp_all
theorem newOnes_le (d : List (Int × List UInt8)) (l : List Put) : newOnes d l ≤ l.length := List.length_filter_le _ _
theorem buf_write {p : Option Addr} {B : Buf} {s : SV} {l : List Put} {R : HP} {w : World} {K : Int → World → Prop} (h : Sat (bufA p B * R) w) (hs : ∀ w', Sat R w' → putsOn (hp w') s l) (hn : l.length ≤ 2 ^ 40) (hb : B.data.length ≤ 2 ^ 40)
    (hk : ∀ w', Sat (bufA p (B.write l).1 * R) w' → K (B.write l).2 w') : c_wbuf_Buf_Write p s w K := by
  refine wbuf_Buf_Write_go ?_
  have hsn : s.n = l.length := (hs w h.right).1
  unfold f_wbuf_Buf_Write
  rw [withW_iff]
  obtain ⟨r0, hx⟩ := bufA_open h
  obtain ⟨bp, tp, rfl, hx'⟩ := objA_open hx
  clear hx hx' r0 tp
  have h1 := objA_new (t := 108) (vs := [.pointer (some ⟨bp, 0, none⟩)]) h
  generalize w.heap.size = bx at h1 ⊢
  generalize w.alloc _ = w1 at h1 ⊢
  refine bsplit_decide.2 ⟨fun h0 => ?_, fun h0 => ?_⟩
  · have : B.write l = (B, 1) := by unfold Buf.write; rw [if_pos (by omega)]
    rw [this] at hk; exact hk _ h1.right
  have hne : ¬ l.length = 0 := by omega
  refine ⟨some ⟨bp, 0, none⟩, (objA_cells h1).1 0, ?_⟩
  obtain ⟨r, h2⟩ := bufA_open (h1.eq (by ac_rfl : _ = bufA (some ⟨bp, 0, none⟩) B * (objA (some ⟨bx, 0, none⟩) [.pointer (some ⟨bp, 0, none⟩)] * R)))
  refine outs_c (hs _ h1.right.right) (by omega) ((objA_cells h1).1 0) ((objA_cells h2).1 0) fun w4 k4 => bsplit_iff.2 ⟨fun hc => ?_, fun hc => ?_⟩
  · have : B.write l = (B, 2) := by unfold Buf.write; rw [if_neg hne, if_pos hc]
    rw [this] at hk; exact hk _ (k4.sat h1.right)
  refine lens_c (hs _ (k4.sat h1.right.right)) (by omega) fun w6 k6 => bsplit_iff.2 ⟨fun hc2 => ?_, fun hc2 => ?_⟩
  · have : B.write l = (B, 3) := by unfold Buf.write; rw [if_neg hne, if_neg (by simp [hc]), if_pos hc2]
    rw [this] at hk; exact hk _ (k6.sat (k4.sat h1.right))
  refine twice_c (hs _ (k6.sat (k4.sat h1.right.right))) (by omega) fun w8 k8 => bsplit_iff.2 ⟨fun hc3 => ?_, fun hc3 => ?_⟩
  · have : B.write l = (B, 4) := by unfold Buf.write; rw [if_neg hne, if_neg (by simp [hc]), if_neg (by simp [hc2]), if_pos hc3]
    rw [this] at hk; exact hk _ (k8.sat (k6.sat (k4.sat h1.right)))
  have h8 := k8.sat (k6.sat (k4.sat h2))
  clear h1 h2 k4 k6 k8 h
  have h8b : Sat (objA (some ⟨bx, 0, none⟩) [.pointer (some ⟨bp, 0, none⟩)] * (objA (some ⟨bp, 0, none⟩) [.int .i64 B.blocks, .int .i64 B.most, .map (some r)] * (slmapA byteRow r B.data * R))) w8 := h8.eq (by ac_rfl)
  refine ⟨some ⟨bp, 0, none⟩, (objA_cells h8b).1 0, ?_⟩
  rw [onP_some, add_mk]
  refine ⟨some r, (objA_cells h8b.right).1 2, ?_⟩
  rw [onM_some]
  obtain ⟨es, hcl, hes, hlk⟩ := slmapA_get h8b.right.right
  refine ⟨es, hcl, ?_⟩
  -- how many are new
  refine loop_i (fun (x : Int × Int) w' => ∃ i : Nat, x = (((B.data.length + newOnes B.data (l.take i) : Nat) : Int), (i : Int)) ∧ i ≤ l.length ∧ Keep w8 w') (fun x _ => l.length - x.2.toNat) ⟨0, by simp [newOnes, hes], by omega, Keep.refl w8⟩ ?_
  rintro x w1 ⟨i, rfl, hi, kw⟩
  have hw := kw.sat h8b
  refine bsplit_decide.2 ⟨fun hlt => ?_, fun hge => ?_⟩
  · have hlt' : i < l.length := by simp at hlt; omega
    obtain ⟨ad, d, ha, hc1, hc2', _⟩ := (hs _ hw.right.right.right).2 i hlt'
    refine ⟨by omega, by omega, onP_i ha ⟨(l[i].lba, d), ⟨hc1, hc2'⟩, box2 hw fun w2 k2 hw2 => ?_⟩⟩
    rw [withW_iff]
    have hw3 := hw2.drew
    refine ⟨some ⟨bp, 0, none⟩, (objA_cells hw3.right).1 0, ?_⟩
    rw [onP_some, add_mk]
    refine ⟨some r, (objA_cells hw3.right.right).1 2, l[i].lba, (objA_cells hw3).1 0, rfl, ?_⟩
    rw [onM_some]
    obtain ⟨es3, hcl3, _, hlk3⟩ := slmapA_get hw3.right.right.right
    have hno := newOnes_le B.data (l.take i)
    have hti : (l.take i).length ≤ i := by simp; omega
    have e1 : IntKind.i64.wrap ((i : Int) + 1) = ((i + 1 : Nat) : Int) := by rw [wrap_of (by omega) (by omega)]; omega
    rcases hlk3 l[i].lba with ⟨q1, q2⟩ | ⟨s', b', q1, q2, _⟩
    · refine ⟨es3, hcl3, ⟨none, 0, 0⟩, by rw [q2]; rfl, ?_⟩
      rw [q2]
      refine ⟨⟨i + 1, ?_, by omega, kw.trans (k2.trans (Keep.drew _))⟩, by simp only [e1]; omega⟩
      rw [newOnes_take hlt', q1, e1, wrap_of (by omega) (by omega)]
      simp only [Option.isNone_none, ↓reduceIte, Prod.mk.injEq, and_true]; omega
    · refine ⟨es3, hcl3, s', by rw [q2]; rfl, ?_⟩
      rw [q2]
      refine ⟨⟨i + 1, ?_, by omega, kw.trans (k2.trans (Keep.drew _))⟩, by simp only [e1]; omega⟩
      rw [newOnes_take hlt', q1, e1]
      simp
  obtain rfl : i = l.length := by simp at hge; omega
  rw [List.take_length]
  refine ⟨some ⟨bp, 0, none⟩, (objA_cells hw).1 0, ?_⟩
  rw [onP_some, add_mk]
  refine ⟨B.most, (objA_cells hw.right).1 1, bsplit_decide.2 ⟨fun hm => ?_, fun hm => ?_⟩⟩
  · have : B.write l = (B, 7) := by unfold Buf.write; rw [if_neg hne, if_neg (by simp [hc]), if_neg (by simp [hc2]), if_neg (by simp [hc3]), if_pos hm]
    rw [this] at hk; exact hk _ (bufA_close hw.right)
  have hwr : B.write l = ({ B with data := putsIn B.data l }, 0) := by unfold Buf.write; rw [if_neg hne, if_neg (by simp [hc]), if_neg (by simp [hc2]), if_neg (by simp [hc3]), if_neg hm]
  rw [hwr] at hk
  -- they are put
  refine loop_i (fun (x : Int) w' => ∃ i : Nat, x = i ∧ i ≤ l.length ∧ Sat (objA (some ⟨bx, 0, none⟩) [.pointer (some ⟨bp, 0, none⟩)] * (objA (some ⟨bp, 0, none⟩) [.int .i64 B.blocks, .int .i64 B.most, .map (some r)] * (slmapA byteRow r (putsIn B.data (l.take i)) * R))) w') (fun x _ => l.length - x.toNat) ⟨0, rfl, by omega, hw⟩ ?_
  rintro x w2 ⟨i, rfl, hi, hw2⟩
  refine bsplit_decide.2 ⟨fun hlt => ?_, fun hge => ?_⟩
  · have hlt' : i < l.length := by omega
    obtain ⟨ad, d, ha, hc1, hc2', hd⟩ := (hs _ hw2.right.right.right).2 i hlt'
    refine ⟨by omega, by omega, onP_i ha ⟨(l[i].lba, d), ⟨hc1, hc2'⟩, box2 hw2 fun w3 k3 hw3 => ?_⟩⟩
    rw [withW_iff]
    have hw4 := hw3.drew
    refine ⟨fun w' => Sat (objA (some ⟨w2.heap.size, 0, none⟩) [.int .i64 l[i].lba, .slice d.a d.n d.c] * (objA (some ⟨bx, 0, none⟩) [.pointer (some ⟨bp, 0, none⟩)] * (objA (some ⟨bp, 0, none⟩) [.int .i64 B.blocks, .int .i64 B.most, .map (some r)] * (slmapA byteRow r (putsIn B.data (l.take i)) * R)))) w', hw4, ?_⟩
    refine ⟨some ⟨bp, 0, none⟩, fun w' hw' => (objA_cells hw'.right).1 0, ?_⟩
    rw [onP_some, add_mk]
    refine ⟨some r, fun w' hw' => (objA_cells hw'.right.right).1 2, l[i].lba, fun w' hw' => (objA_cells hw').1 0, d, fun w' hw' => (objA_cells hw').1 1, ?_⟩
    have hlen : l[i].data.length = 40 := by
      have := List.any_eq_false.1 hc2 _ (List.getElem_mem hlt')
      simpa [badLen] using this
    refine clone_bytes hw4 (bytesOn_le (keep_le (k3.trans (Keep.drew _))) hd) (by omega) fun s' w5 hs' hw5 => ⟨hw5.right, rfl, ?_⟩
    rw [onM_some]
    have hw6 : Sat (slmapA byteRow r (putsIn B.data (l.take i)) * (byteRow s' l[i].data * (objA (some ⟨bx, 0, none⟩) [.pointer (some ⟨bp, 0, none⟩)] * (objA (some ⟨bp, 0, none⟩) [.int .i64 B.blocks, .int .i64 B.most, .map (some r)] * R)))) w5 :=
      (hw5.eq (by ac_rfl : _ = objA (some ⟨w2.heap.size, 0, none⟩) [.int .i64 l[i].lba, .slice d.a d.n d.c] * (slmapA byteRow r (putsIn B.data (l.take i)) * (ownS 1 s' (bytesV l[i].data) * (objA (some ⟨bx, 0, none⟩) [.pointer (some ⟨bp, 0, none⟩)] * (objA (some ⟨bp, 0, none⟩) [.int .i64 B.blocks, .int .i64 B.most, .map (some r)] * R)))))).right
    obtain ⟨es5, cl5, hm5, hw7⟩ := slmapA_put l[i].lba hw6
    refine ⟨es5, cl5, hm5, gen_w hw7 fun w7 hw7 => ?_⟩
    have e1 : IntKind.i64.wrap ((i : Int) + 1) = ((i + 1 : Nat) : Int) := by rw [wrap_of (by omega) (by omega)]; omega
    refine ⟨⟨i + 1, e1, by omega, ?_⟩, by simp only [e1]; omega⟩
    rw [putsIn_take hlt']
    exact hw7.eq (by ac_rfl)
  · obtain rfl : i = l.length := by omega
    rw [List.take_length] at hw2
    exact hk _ (bufA_close hw2.right)
end Go.Proofs.YtbolgpjcmchfoaaGreat
