/- Contracts of the map of versions: what it takes in. -/
import Derived.Test.YtbolgpjcmchfoaaGreatCg
import Derived.Test.YtbolgpjcmchfoaaGreatMe
namespace Go.Proofs.YtbolgpjcmchfoaaGreat
open Go Go.Vc Go.Sl Go.Mo
theorem xmap_ptr {p : Option Addr} {M : XMap} {R : HP} {w : World} (h : Sat (xmapA p M * R) w) : ∃ b, p = some ⟨b, 0, none⟩ := by
  obtain ⟨r, h1⟩ := xmapA_open h
  obtain ⟨b, t, rfl, _⟩ := objA_open h1
  exact ⟨b, rfl⟩
theorem xmap_new {n : Int} {R : HP} {w : World} {K : Option Addr × Int → World → Prop} (h : Sat R w) (hn : 1 ≤ n ∧ n ≤ 1048576) (hk : ∀ p w', Sat (xmapA p ⟨n, [], 0⟩ * R) w' → K (p, 0) w') : c_extmap_New n w K := by
  refine extmap_New_go (bsplit_decide.2 ⟨fun h0 => by omega, fun _ => bsplit_decide.2 ⟨fun h0 => by omega, fun _ => ?_⟩⟩)
  rw [withW_iff, withW_iff]
  have h1 : Sat (slmapA putsA w.heap.size [] * R) (w.alloc (.map #[] 0)) := slmapA_new h
  have h2 : Sat (objA (some ⟨(w.alloc (.map #[] 0)).heap.size, 0, none⟩) [.int .i64 n, .map (some w.heap.size), .int .i64 0] * (slmapA putsA w.heap.size [] * R)) ((w.alloc (.map #[] 0)).alloc (.cells [.int .i64 n, .map (some w.heap.size), .int .i64 0].toArray 164)) := objA_new h1
  exact hk _ _ (xmapA_close (M := ⟨n, [], 0⟩) h2)
theorem xmap_new_bad {n : Int} {w : World} {K : Option Addr × Int → World → Prop} (hn : n < 1 ∨ 1048576 < n) (hk : K (none, 1) w) : c_extmap_New n w K :=
  extmap_New_go (bsplit_decide.2 ⟨fun _ => hk, fun _ => bsplit_decide.2 ⟨fun _ => hk, fun _ => by omega⟩⟩)
theorem xmap_apply {B : Nat} {p : Option Addr} {M : XMap} {t : Tx} {s : SV} {R : HP} {w : World} {K : Int → World → Prop} (h : Sat (xmapA p M * R) w) (ok : XOk B M) (hB : B ≤ 2 ^ 30) (hs : ∀ w', Sat R w' → putsOn (hp w') s t.puts) (hn : t.puts.length ≤ 2 ^ 20)
    (hk : ∀ w', Sat (xmapA p (M.apply t).1 * R) w' → K (M.apply t).2 w') : c_extmap_Map_Apply p t.time s w K := by
  obtain ⟨bp, rfl⟩ := xmap_ptr h
  have hsn : s.n = t.puts.length := (hs w h.right).1
  refine extmap_Map_Apply_go ?_
  unfold f_extmap_Map_Apply
  rw [withW_iff]
  have h1 : Sat (objA (some ⟨w.heap.size, 0, none⟩) [.int .i64 t.time, slv s] * (xmapA (some ⟨bp, 0, none⟩) M * R)) (w.alloc (.cells [.int .i64 t.time, slv s].toArray 70)) := objA_new h
  change Sat _ (w.alloc (.cells #[.int .i64 t.time, .slice s.a s.n s.c] 70)) at h1
  generalize w.alloc _ = w1 at h1 ⊢
  generalize w.heap.size = bx at h1 ⊢
  obtain ⟨r, h2⟩ := xmapA_open (h1.eq (by ac_rfl : _ = xmapA (some ⟨bp, 0, none⟩) M * (objA (some ⟨bx, 0, none⟩) [.int .i64 t.time, slv s] * R)))
  have hx0 : ∀ w', Sat (objA (some ⟨bp, 0, none⟩) [.int .i64 M.blocks, .map (some r), .int .i64 M.last] * (slmapA putsA r M.vers * (objA (some ⟨bx, 0, none⟩) [.int .i64 t.time, slv s] * R))) w' → Sat (objA (some ⟨bx, 0, none⟩) [.int .i64 t.time, slv s] * (objA (some ⟨bp, 0, none⟩) [.int .i64 M.blocks, .map (some r), .int .i64 M.last] * (slmapA putsA r M.vers * R))) w' := fun w' hw => hw.eq (by ac_rfl)
  have hback : ∀ w', Sat (objA (some ⟨bp, 0, none⟩) [.int .i64 M.blocks, .map (some r), .int .i64 M.last] * (slmapA putsA r M.vers * (objA (some ⟨bx, 0, none⟩) [.int .i64 t.time, slv s] * R))) w' → Sat (xmapA (some ⟨bp, 0, none⟩) M * R) w' := fun w' hw => xmapA_close (hx0 w' hw).right
  refine gone_some ((objA_cells h2).1 0) (bsplit_decide.2 ⟨fun h0 => by have := ok.1.1; omega, fun _ => ?_⟩)
  rw [withW_iff]
  have h3 := h2.drew
  have hb := hx0 _ h3
  refine ⟨t.time, (objA_cells hb).1 0, ?_⟩
  rw [onP_some, add_mk]
  refine ⟨M.last, (objA_cells h3).1 2, bsplit_decide.2 ⟨fun hle => ?_, fun hle => ⟨t.time, (objA_cells hb).1 0, bsplit_decide.2 ⟨fun hgt => ?_, fun hgt => ?_⟩⟩⟩⟩
  · have : M.apply t = (M, 11) := by unfold XMap.apply; rw [if_pos (.inl hle)]
    rw [this] at hk; exact hk _ (hback _ h3)
  · have : M.apply t = (M, 11) := by unfold XMap.apply; rw [if_pos (.inr hgt)]
    rw [this] at hk; exact hk _ (hback _ h3)
  have c1 : ¬ (t.time ≤ M.last ∨ 1099511627776 < t.time) := by omega
  refine ⟨s, (objA_cells hb).1 1, rise_c (hs _ hb.right.right.right) (by omega) fun w11 k11 => bsplit_iff.2 ⟨fun hr => ?_, fun hr => ?_⟩⟩
  · have : M.apply t = (M, 1) := by unfold XMap.apply; rw [if_neg c1, if_pos (by simpa using hr)]
    rw [this] at hk; exact hk _ (hback _ (k11.sat h3))
  have hr' : riseM t.puts = true := by simpa using hr
  have c2 : ¬ riseM t.puts = false := by simp [hr']
  have hpos : 0 < t.puts.length := by unfold riseM at hr'; simp only [decide_eq_true_eq] at hr'; exact hr'.1
  have h4 := k11.sat h3
  have hb4 := hx0 _ h4
  obtain ⟨ad0, d0, ha0, hc0, _, _⟩ := (hs _ hb4.right.right.right).2 0 hpos
  refine ⟨s, (objA_cells hb4).1 1, by omega, by omega, onP_i ha0 ⟨t.puts[0].lba, hc0, ?_⟩⟩
  have hhead : t.puts.headD ⟨0, []⟩ = t.puts[0] := by
    rw [List.headD_eq_head?_getD, List.head?_eq_getElem?, List.getElem?_eq_getElem hpos]; rfl
  have hlast : t.puts.getLastD ⟨0, []⟩ = t.puts[t.puts.length - 1] := by
    rw [List.getLastD_eq_getLast?, List.getLast?_eq_getElem?, List.getElem?_eq_getElem (by omega)]; rfl
  refine block_some ((objA_cells h4).1 0) (bsplit_iff.2 ⟨fun hr => ?_, fun hr => ?_⟩)
  · have : M.apply t = (M, 2) := by
      unfold XMap.apply
      rw [if_neg c1, if_neg c2, if_pos (.inl (by rw [hhead]; unfold inB; simpa only [Bool.not_eq_true'] using hr))]
    rw [this] at hk; exact hk _ (hback _ h4)
  have hin0 : inB M t.puts[0].lba = true := by unfold inB; simpa only [Bool.not_eq_false'] using hr
  have e1 : IntKind.i64.wrap (((s.n : Nat) : Int) - 1) = ((t.puts.length - 1 : Nat) : Int) := by rw [hsn, wrap_of (by omega) (by omega)]; omega
  obtain ⟨ad1, d1, ha1, hc1, _, _⟩ := (hs _ hb4.right.right.right).2 (t.puts.length - 1) (by omega)
  refine ⟨s, (objA_cells hb4).1 1, s, (objA_cells hb4).1 1, ?_⟩
  rw [e1]
  refine ⟨by omega, by omega, onP_i ha1 ⟨t.puts[t.puts.length - 1].lba, hc1, ?_⟩⟩
  refine block_some ((objA_cells h4).1 0) (bsplit_iff.2 ⟨fun hr => ?_, fun hr => ?_⟩)
  · have : M.apply t = (M, 2) := by
      unfold XMap.apply
      rw [if_neg c1, if_neg c2, if_pos (.inr (by rw [hlast]; unfold inB; simpa only [Bool.not_eq_true'] using hr))]
    rw [this] at hk; exact hk _ (hback _ h4)
  have hin1 : inB M t.puts[t.puts.length - 1].lba = true := by unfold inB; simpa only [Bool.not_eq_false'] using hr
  have c3 : ¬ (inB M (t.puts.headD ⟨0, []⟩).lba = false ∨ inB M (t.puts.getLastD ⟨0, []⟩).lba = false) := by rw [hhead, hlast, hin0, hin1]; simp
  refine ⟨s, (objA_cells hb4).1 1, lens2_c (hs _ hb4.right.right.right) (by omega) fun w25 k25 => bsplit_iff.2 ⟨fun hr => ?_, fun hr => ?_⟩⟩
  · have : M.apply t = (M, 3) := by unfold XMap.apply; rw [if_neg c1, if_neg c2, if_neg c3, if_pos hr]
    rw [this] at hk; exact hk _ (hback _ (k25.sat h4))
  have hap : M.apply t = ({ M with vers := t.puts.foldl (addVer t.time) M.vers, last := t.time }, 0) := by unfold XMap.apply; rw [if_neg c1, if_neg c2, if_neg c3, if_neg (by simp [hr])]
  rw [hap] at hk
  have hb5 := hx0 _ (k25.sat h4)
  have hd40 : ∀ x ∈ t.puts, x.data.length = 40 := fun x hx => by
    have := List.any_eq_false.1 hr x hx
    simpa [badLen] using this
  refine ⟨s, (objA_cells hb5).1 1, ?_⟩
  have hkeys : ∀ i, i ≤ t.puts.length → ∀ k, ((lkp ((t.puts.take i).foldl (addVer t.time) M.vers) k).getD []).length ≤ B + i := by
    intro i
    induction i with
    | zero =>
      intro _ k
      cases e : lkp M.vers k with
      | none => simp [e]
      | some v => simp [e]; have := (ok.2.2 _ (lkp_mem e)).2.2.1; simpa using this
    | succ i ih =>
      intro hi k
      have := ih (by omega)
      rw [List.take_succ_eq_append_getElem (by omega), List.foldl_append]
      simp only [List.foldl_cons, List.foldl_nil, addVer]
      rw [lkp_put]
      split
      · simp only [Option.getD_some, versOf, List.length_append, List.length_singleton]
        have := this t.puts[i].lba; omega
      · have := this k; omega
  refine loop_i (fun (x : Int) w' => ∃ i : Nat, x = i ∧ i ≤ t.puts.length ∧ Sat (objA (some ⟨bx, 0, none⟩) [.int .i64 t.time, slv s] * (objA (some ⟨bp, 0, none⟩) [.int .i64 M.blocks, .map (some r), .int .i64 M.last] * (slmapA putsA r ((t.puts.take i).foldl (addVer t.time) M.vers) * R))) w') (fun x _ => t.puts.length - x.toNat) ⟨0, rfl, by omega, hb5⟩ ?_
  rintro x w2 ⟨i, rfl, hi, hw2⟩
  refine bsplit_decide.2 ⟨fun hlt => ?_, fun hge => ?_⟩
  · have hlt' : i < t.puts.length := by omega
    obtain ⟨ad, d, ha, hc1, hc2', hd⟩ := (hs _ hw2.right.right.right).2 i hlt'
    have hvl := hkeys i hi t.puts[i].lba
    have hnext : (t.puts.take (i + 1)).foldl (addVer t.time) M.vers = addVer t.time ((t.puts.take i).foldl (addVer t.time) M.vers) t.puts[i] := by
      rw [List.take_succ_eq_append_getElem hlt', List.foldl_append]; rfl
    generalize hvs : (t.puts.take i).foldl (addVer t.time) M.vers = vs at hw2 hvl hnext
    have hlen := hd40 _ (List.getElem_mem hlt')
    generalize t.puts[i] = u at *
    refine ⟨by omega, by omega, onP_i ha ⟨(u.lba, d), ⟨hc1, hc2'⟩, box2 hw2 fun w3 k3 hw3 => ?_⟩⟩
    rw [withW_iff]
    have hw4 := hw3.drew
    have hdb := bytesOn_le (keep_le (k3.trans (Keep.drew _))) hd
    have e2 : IntKind.i64.wrap ((i : Int) + 1) = ((i + 1 : Nat) : Int) := by rw [wrap_of (by omega) (by omega)]; omega
    generalize w2.heap.size = bu at hw4 ⊢
    -- what the operations read
    obtain ⟨es, cl, H, sv, hsv, h5, hput⟩ := slmapA_hole (A := putsA) (d0 := []) (fun R w hw => pairsA_nil hw rfl rfl) (hw4.eq (by ac_rfl : _ = slmapA putsA r vs * (objA (some ⟨bu, 0, none⟩) [.int .i64 u.lba, slv d] * (objA (some ⟨bx, 0, none⟩) [.int .i64 t.time, slv s] * (objA (some ⟨bp, 0, none⟩) [.int .i64 M.blocks, .map (some r), .int .i64 M.last] * R))))) u.lba
    obtain ⟨S, hS⟩ : ∃ S : World → Prop, S = fun w' => Sat (mapE r es cl * (objA (some ⟨bu, 0, none⟩) [.int .i64 u.lba, slv d] * (objA (some ⟨bx, 0, none⟩) [.int .i64 t.time, slv s] * objA (some ⟨bp, 0, none⟩) [.int .i64 M.blocks, .map (some r), .int .i64 M.last]))) w' := ⟨_, rfl⟩
    have toS : ∀ (X : HP) w', Sat (X * (mapE r es cl * (objA (some ⟨bu, 0, none⟩) [.int .i64 u.lba, slv d] * (objA (some ⟨bx, 0, none⟩) [.int .i64 t.time, slv s] * objA (some ⟨bp, 0, none⟩) [.int .i64 M.blocks, .map (some r), .int .i64 M.last])))) w' → S w' := fun X w' hw => by rw [hS]; exact hw.right
    have S1 : ∀ w', S w' → w'.cell? ⟨bp, 1, none⟩ = some (.map (some r)) := fun w' hw => by
      rw [hS] at hw
      exact (objA_cells (b := bp) (vs := [.int .i64 M.blocks, .map (some r), .int .i64 M.last]) (R := 1) (hw.right.right.right.eq (mul_one' _).symm)).1 1
    have S2 : ∀ w', S w' → w'.cell? ⟨bu, 0, none⟩ = some (.int .i64 u.lba) ∧ w'.cell? ⟨bu, 1, none⟩ = some (slv d) := fun w' hw => by
      rw [hS] at hw
      exact ⟨(objA_cells hw.right).1 0, (objA_cells hw.right).1 1⟩
    have S3 : ∀ w', S w' → w'.cell? ⟨bx, 0, none⟩ = some (.int .i64 t.time) := fun w' hw => by
      rw [hS] at hw
      exact (objA_cells hw.right.right).1 0
    have S4 : ∀ w', S w' → ∃ cl, mapAt w' r .i64 es cl := fun w' hw => by
      rw [hS] at hw
      exact ⟨cl, mapE_at hw⟩
    refine ⟨S, toS (putsA sv (versOf vs u.lba) * (H * R)) _ (h5.eq ?_), ?_⟩
    · unfold versOf; ac_rfl
    rw [onP_some, add_mk]
    refine ⟨some r, S1, u.lba, fun w' hw => (S2 w' hw).1, some r, S1, u.lba, fun w' hw => (S2 w' hw).1, rfl, ?_⟩
    rw [onM_some]
    refine ⟨es, S4, sv, hsv, t.time, S3, d, fun w' hw => (S2 w' hw).2, clone_bytes h5 hdb (by omega) fun s' w5 hs' hw5 => ⟨toS (ownS 1 s' (bytesV u.data) * (putsA sv (versOf vs u.lba) * (H * R))) _ (hw5.eq (by unfold versOf; ac_rfl)), ?_⟩⟩
    rw [withW_iff]
    have hw6 := hw5.alloc (.cells #[.int .i64 t.time, .slice s'.a s'.n s'.c] 185)
    have hc60 := hw6.cell 0
    have hc61 := hw6.cell 1
    generalize hbn : w5.heap.size = bn at hw6 hc60 hc61 ⊢
    have hw7 := hw6.right
    refine ⟨toS (ownS 1 s' (bytesV u.data) * (putsA sv (versOf vs u.lba) * (H * R))) _ (hw7.eq (by unfold versOf; ac_rfl)), ?_⟩
    have hvl' : (versOf vs u.lba).length ≤ B + i := hvl
    refine pairsA_push (num := Put.lba) (A := fun s x => byteRow s x.data) (x := (⟨t.time, u.data⟩ : Put)) (d := s') (l := versOf vs u.lba) (R := mapE r es cl * (H * (objA (some ⟨bu, 0, none⟩) [.int .i64 u.lba, slv d] * (objA (some ⟨bx, 0, none⟩) [.int .i64 t.time, slv s] * (objA (some ⟨bp, 0, none⟩) [.int .i64 M.blocks, .map (some r), .int .i64 M.last] * R))))) (hw7.eq ?_) ⟨hc60, hc61⟩ (by omega) (by omega) rfl fun s2 w8 hw8 => ?_
    · unfold versOf
      show ownS 1 s' (bytesV u.data) * (mapE r es cl * (putsA sv _ * _)) = putsA sv _ * (ownS 1 s' (bytesV u.data) * _)
      ac_rfl
    · change Sat (putsA s2 (versOf vs u.lba ++ [⟨t.time, u.data⟩]) * _) w8 at hw8
      refine ⟨toS (putsA s2 (versOf vs u.lba ++ [⟨t.time, u.data⟩]) * (H * R)) _ (hw8.eq (by ac_rfl)), rfl, ?_⟩
      rw [onM_some]
      obtain ⟨hm, hw9⟩ := hput (objA (some ⟨bu, 0, none⟩) [.int .i64 u.lba, slv d] * (objA (some ⟨bx, 0, none⟩) [.int .i64 t.time, slv s] * (objA (some ⟨bp, 0, none⟩) [.int .i64 M.blocks, .map (some r), .int .i64 M.last] * R))) w8 s2 (versOf vs u.lba ++ [⟨t.time, u.data⟩]) (hw8.eq (by ac_rfl))
      refine ⟨es, cl, hm, gen_w hw9 fun w9 hw9 => ⟨⟨i + 1, e2, by omega, ?_⟩, by rw [e2]; simp; omega⟩⟩
      rw [hnext]
      have : Sat (objA (some ⟨bu, 0, none⟩) [.int .i64 u.lba, slv d] * (objA (some ⟨bx, 0, none⟩) [.int .i64 t.time, slv s] * (objA (some ⟨bp, 0, none⟩) [.int .i64 M.blocks, .map (some r), .int .i64 M.last] * (slmapA putsA r (addVer t.time vs u) * R)))) w9 := hw9.eq (by unfold addVer; ac_rfl)
      exact this.right
  · obtain rfl : i = t.puts.length := by omega
    rw [List.take_length] at hw2
    refine ⟨t.time, (objA_cells hw2).1 0, ?_⟩
    rw [onP_some, add_mk]
    refine objA_store (vs := [.int .i64 M.blocks, .map (some r), .int .i64 M.last]) hw2.right (by simp) fun w' h' => hk _ ?_
    exact xmapA_close (M := { M with vers := t.puts.foldl (addVer t.time) M.vers, last := t.time }) h'
end Go.Proofs.YtbolgpjcmchfoaaGreat
