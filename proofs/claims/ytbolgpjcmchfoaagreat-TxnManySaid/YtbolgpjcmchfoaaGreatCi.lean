/- Contracts of the map of versions: what was written, and how many versions there are. -/
import Derived.Test.YtbolgpjcmchfoaaGreatCh
namespace Go.Proofs.YtbolgpjcmchfoaaGreat
open Go Go.Vc Go.Sl Go.Mo
theorem xmap_written {B : Nat} {p : Option Addr} {M : XMap} {e : Ext} {after : Int} {R : HP} {w : World} {K : Bool → World → Prop} (h : Sat (xmapA p M * R) w) (ok : XOk B M) (hB : B ≤ 2 ^ 31)
    (hk : ∀ w', Keep w w' → K (M.written e after) w') : c_extmap_Map_Written p e.first e.len after w K := by
  obtain ⟨bp, rfl⟩ := xmap_ptr h
  refine extmap_Map_Written_go ?_
  unfold f_extmap_Map_Written
  rw [withW_iff]
  obtain ⟨r, h0⟩ := xmapA_open h
  have h1 : Sat (objA (some ⟨w.heap.size, 0, none⟩) [.int .i64 e.first, .int .i64 e.len] * (objA (some ⟨bp, 0, none⟩) [.int .i64 M.blocks, .map (some r), .int .i64 M.last] * (slmapA putsA r M.vers * R))) (w.alloc (.cells [.int .i64 e.first, .int .i64 e.len].toArray 56)) := objA_new h0
  have k1 := Keep.alloc w (.cells #[.int .i64 e.first, .int .i64 e.len] 56)
  change Sat _ (w.alloc (.cells #[.int .i64 e.first, .int .i64 e.len] 56)) at h1
  generalize w.alloc _ = w1 at h1 k1 ⊢
  generalize w.heap.size = bx at h1 ⊢
  have hno : may e = false → K false w1 := fun hm => by
    have := hk w1 k1
    unfold XMap.written at this
    simpa [hm] using this
  refine gone_some ((objA_cells h1.right).1 0) (bsplit_decide.2 ⟨fun h0 => by have := ok.1.1; omega, fun _ => ?_⟩)
  have c0 := (objA_cells h1).1 0
  have c1 := (objA_cells h1).1 1
  refine ⟨e.first, c0, bsplit_decide.2 ⟨fun a1 => hno (by simp [may]; omega), fun a1 => ⟨e.first, c0, bsplit_decide.2 ⟨fun a2 => hno (by simp [may]; omega), fun a2 => ⟨e.len, by rw [add_mk]; exact c1, bsplit_decide.2 ⟨fun a3 => hno (by simp [may]; omega), fun a3 =>
    ⟨e.len, by rw [add_mk]; exact c1, e.first, c0, ?_⟩⟩⟩⟩⟩⟩⟩
  rw [wrap_of (by omega) (by omega)]
  refine bsplit_decide.2 ⟨fun a4 => hno (by simp [may]; omega), fun a4 => ⟨e.len, by rw [add_mk]; exact c1, bsplit_decide.2 ⟨fun a5 => hno (by simp [may]; omega), fun a5 => ?_⟩⟩⟩
  have hm : may e = true := by simp [may]; omega
  rw [onP_some, add_mk]
  refine ⟨some r, (objA_cells h1.right).1 1, ?_⟩
  rw [onM_some]
  obtain ⟨es, cl, xs, mok, hxs, he1, he2, huniq, h2, _⟩ := slmapA_iter (h1.eq (by ac_rfl : _ = slmapA putsA r M.vers * (objA (some ⟨bx, 0, none⟩) [.int .i64 e.first, .int .i64 e.len] * (objA (some ⟨bp, 0, none⟩) [.int .i64 M.blocks, .map (some r), .int .i64 M.last] * R))))
  refine ⟨_, cl, h2.get, ?_⟩
  rw [withW_iff]
  have hit : Sat (iterP w1.heap.size r cl #[] * whole w1) (w1.alloc (.mapIter (some r) cl #[] cl)) := (sat_whole w1).alloc _
  have hcell : ∀ w', Sat (whole w1) w' → Keep w1 w' := fun w' hw => Keep.whole hw
  generalize w1.heap.size = it at hit ⊢
  have hmap : ∀ w', Sat (whole w1) w' → mapAt w' r .i64 es cl := fun w' hw => keep_heap (hcell w' hw) (mapE_at h2)
  refine loop_i (fun (x : Bool) w' => ∃ seen, Sat (iterP it r cl seen * whole w1) w' ∧ ∀ f ∈ es, f.b ∈ seen → ∀ s b, (f.k, (s, b)) ∈ xs → hitV e after (f.k, b) = false) (fun _ w' => match w'.heap[it]? with | some (.mapIter _ _ seen _) => left es seen | _ => 0) ⟨#[], hit, by simp⟩ ?_
  rintro x w4 ⟨seen, hw, hseen⟩
  have hleft : (match w4.heap[it]? with | some (.mapIter _ _ seen _) => left es seen | _ => 0) = left es seen := by rw [hw.get]
  rw [hleft]
  refine iter_step (enc := fun x : SV => .slice x.a x.n x.c) hw hmap mok (fun f hf => ?_) (fun f hf hfs x hx w' hw' => ?_) (fun hall w' hw' => ?_)
  · obtain ⟨s, b, _, hv⟩ := he1 f hf
    exact ⟨s, hv⟩
  · obtain ⟨s, b, hmem, hv⟩ := he1 f hf
    obtain rfl : x = s := by
      rw [hx] at hv; unfold slv at hv
      cases x; cases s; simp_all
    have kk := hcell w' hw'.right
    have hb : Sat (putsA x b) w1 := all_mem (A := fun x : Int × (SV × List Put) => putsA x.2.1 x.2.2) hmem h2.right.left
    have hbok : 0 < b.length ∧ b.length ≤ B := by
      have : (f.k, b) ∈ M.vers := hxs ▸ List.mem_map.2 ⟨(f.k, (x, b)), hmem, rfl⟩
      exact ⟨(ok.2.2 _ this).2.1, (ok.2.2 _ this).2.2.1⟩
    have hfk : 0 ≤ f.k ∧ f.k < 1048576 := by
      have : (f.k, b) ∈ M.vers := hxs ▸ List.mem_map.2 ⟨(f.k, (x, b)), hmem, rfl⟩
      have h3 := (ok.2.2 _ this).1
      have h4 := ok.1.2
      simp only at h3; omega
    have hlt : left es (seen.push f.b) < left es seen := left_lt hf hfs
    have hnew : (match w'.heap[it]? with | some (.mapIter _ _ seen _) => left es seen | _ => 0) < left es seen := by rw [hw'.get]; exact hlt
    have next : hitV e after (f.k, b) = false → (∃ seen, Sat (iterP it r cl seen * whole w1) w' ∧ ∀ f ∈ es, f.b ∈ seen → ∀ s b, (f.k, (s, b)) ∈ xs → hitV e after (f.k, b) = false) ∧ (match w'.heap[it]? with | some (.mapIter _ _ seen _) => left es seen | _ => 0) < left es seen := by
      intro hh
      refine ⟨⟨seen.push f.b, hw', fun g hg hgs s' b' hmem' => ?_⟩, hnew⟩
      rcases Array.mem_push.1 hgs with h3 | h3
      · exact hseen g hg h3 s' b' hmem'
      · have : g = f := by
          have hn := mok.2.1
          clear hw hmap hw' hit hnew hlt hleft
          refine Classical.byContradiction fun hne => ?_
          have hp := List.pairwise_map.1 hn
          rcases List.getElem_of_mem hg with ⟨i, hi, rfl⟩
          rcases List.getElem_of_mem hf with ⟨j, hj, rfl⟩
          rcases Nat.lt_trichotomy i j with h | h | h
          · exact List.pairwise_iff_getElem.1 hp i j hi hj h h3
          · subst h; exact hne rfl
          · exact List.pairwise_iff_getElem.1 hp j i hj hi h h3.symm
        subst this
        have := huniq _ _ _ hmem hmem'
        simp only [Prod.mk.injEq] at this
        rw [← this.2]; exact hh
    have d0 := keep_cell kk c0
    have d1 := keep_cell kk c1
    refine ⟨e.first, d0, bsplit_decide.2 ⟨fun b1 => ⟨e.first, d0, e.len, by rw [add_mk]; exact d1, ?_⟩, fun b1 => next (by simp [hitV]; omega)⟩⟩
    rw [wrap_of (by omega) (by omega)]
    refine bsplit_decide.2 ⟨fun b2 => ?_, fun b2 => next (by simp [hitV]; omega)⟩
    have hpo := putsA_on hb
    have hxn := hpo.1
    obtain ⟨ad, d, ha, hc0, _, _⟩ := (putsOn_le (keep_le kk) hpo).2 (b.length - 1) (by omega)
    have e1 : IntKind.i64.wrap (((x.n : Nat) : Int) - 1) = ((b.length - 1 : Nat) : Int) := by rw [hxn, wrap_of (by omega) (by omega)]; omega
    rw [e1]
    have hlast : lastT b = b[b.length - 1].lba := by
      unfold lastT
      rw [List.getLastD_eq_getLast?, List.getLast?_eq_getElem?, List.getElem?_eq_getElem (by omega)]; rfl
    refine ⟨by omega, by omega, onP_i ha ⟨b[b.length - 1].lba, hc0, bsplit_decide.2 ⟨fun b3 => ?_, fun b3 => next (by simp [hitV, hlast]; omega)⟩⟩⟩
    have : M.written e after = true := by
      unfold XMap.written
      rw [hm, Bool.true_and, List.any_eq_true]
      exact ⟨(f.k, b), hxs ▸ List.mem_map.2 ⟨(f.k, (x, b)), hmem, rfl⟩, by simp [hitV, hlast, b1, b2, b3]⟩
    rw [← this]
    exact hk _ (k1.trans kk)
  · have : M.written e after = false := by
      unfold XMap.written
      rw [hm, Bool.true_and, List.any_eq_false]
      intro q hq
      obtain ⟨f, hf, s, hfk, hmem⟩ := he2 q hq
      have := hseen f hf (hall f hf) s q.2 hmem
      rw [hfk] at this
      simpa using this
    rw [← this]
    exact hk _ (k1.trans (hcell w' hw'.right))
end Go.Proofs.YtbolgpjcmchfoaaGreat
