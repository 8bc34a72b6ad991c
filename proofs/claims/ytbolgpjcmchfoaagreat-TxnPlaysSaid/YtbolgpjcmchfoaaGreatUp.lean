/- What two rows of transactions, two histories, are told to be when they are the same; histories of the reference. -/
import Derived.Test.YtbolgpjcmchfoaaGreatUo
import Derived.Test.YtbolgpjcmchfoaaGreatE
import Derived.Test.YtbolgpjcmchfoaaGreatF3
namespace Go.Proofs.YtbolgpjcmchfoaaGreat
open Go Go.Vc Go.Sl Go.Mo
theorem samebatch_c {n : Int} {s t : SV} {l : List Tx} {w : World} {K : Bool → World → Prop} (hs : txsOn (hp w) s l) (ht : txsOn (hp w) t l) (hl : l.length ≤ 2 ^ 60 ∧ ∀ x ∈ l, x.puts.length ≤ 2 ^ 60) (hk : ∀ w', Keep w w' → K true w') : c_scarpref11_SameBatch n s n t w K := by
  refine scarpref11_SameBatch_go ?_
  unfold f_scarpref11_SameBatch
  refine st_newF (St.of1 (sat_whole w)) fun w1 h1 => st_newF h1 fun w2 h2 => ?_
  have k2 : Keep w w2 := Keep.whole (h2.take 2 rfl).left
  have hsn := hs.1
  have htn := ht.1
  refine ⟨_, st_c0 h2 1 rfl rfl, _, st_c0 h2 0 rfl rfl, bsplit_iff.2 ⟨fun e => by simp at e, fun _ => ⟨s, st_c1 h2 1 rfl rfl, t, st_c1 h2 0 rfl rfl, bsplit_iff.2 ⟨fun e => by simp [hsn, htn] at e, fun _ => ?_⟩⟩⟩⟩
  have c1 := st_c1 (o := 0) (k := 1) (v := .slice s.a s.n s.c) h2 1 rfl rfl
  have c2 := st_c1 (o := 0) (k := 1) (v := .slice t.a t.n t.c) h2 0 rfl rfl
  refine loop_i (fun (x : Bool × Int) w' => ∃ i : Nat, x = (false, (i : Int)) ∧ i ≤ l.length ∧ Keep w2 w') (fun x _ => l.length - x.2.toNat) ⟨0, rfl, by omega, Keep.refl _⟩ ?_
  rintro x w8 ⟨i, rfl, hi, k8⟩
  refine ⟨s, keep_cell k8 c1, bsplit_decide.2 ⟨fun hlt => ?_, fun hge => hk _ (k2.trans k8)⟩⟩
  have hlt' : i < l.length := by simp at hlt; omega
  have k9 := k8.trans (Keep.drew w8)
  rw [withW_iff]
  generalize w8.drew = w12 at k9 ⊢
  have kk := k2.trans k9
  obtain ⟨ad, d, ha, g1, g2, g3⟩ := (txsOn_le (keep_le kk) hs).2 i hlt'
  obtain ⟨ad', d', ha', g1', g2', g3'⟩ := (txsOn_le (keep_le kk) ht).2 i hlt'
  have q1 : ∀ w', Keep w12 w' → w'.cell? ((⟨w.heap.size, 0, none⟩ : Addr).add 1) = some (.slice s.a s.n s.c) := fun w' k => keep_cell (k9.trans k) c1
  have q2 : ∀ w', Keep w12 w' → w'.cell? ((⟨w1.heap.size, 0, none⟩ : Addr).add 1) = some (.slice t.a t.n t.c) := fun w' k => keep_cell (k9.trans k) c2
  have e1 := inc_of hlt' (by omega)
  refine ⟨Keep w12, Keep.refl _, s, q1, by omega, hlt, onP_i ha ⟨_, fun w' k => keep_cell k g1, t, q2, by omega, by simp at hlt ⊢; omega, onP_i ha' ⟨_, fun w' k => keep_cell k g1', bsplit_iff.2 ⟨fun e => by simp at e, fun _ => ⟨s, q1, by omega, hlt, onP_i ha ⟨d, fun w' k => keep_cell k g2, t, q2, by omega, by simp at hlt ⊢; omega, onP_i ha' ⟨d', fun w' k => keep_cell k g2', ?_⟩⟩⟩⟩⟩⟩⟩
  refine sameputs_c g3 g3' (hl.2 _ (List.getElem_mem hlt')) fun b w34 k34 hb => ⟨k34, bsplit_iff.2 ⟨fun e => ?_, fun _ => ⟨⟨i + 1, by rw [e1], by omega, k9.trans k34⟩, by simp only [e1]; omega⟩⟩⟩
  rw [hb.2 rfl] at e; cases e
def readsOn (h : Heap) (s : SV) (l : List Rd) : Prop := s.n = l.length ∧ ∀ i (hi : i < l.length), ∃ ad d, s.a = some ad ∧ cellH h (ad.add (i * 3)) = some (.int .i64 l[i].lba) ∧ cellH h ((ad.add (i * 3)).add 1) = some (.slice d.a d.n d.c) ∧ cellH h ((ad.add (i * 3)).add 2) = some (.bool l[i].own) ∧ bytesOn h d l[i].data
theorem readsOn_le {h g : Heap} (hg : le h g) {s : SV} {l : List Rd} (hl : readsOn h s l) : readsOn g s l := ⟨hl.1, fun i hi => by
  obtain ⟨ad, d, a, b, c, e, f⟩ := hl.2 i hi
  exact ⟨ad, d, a, cellH_le hg b, cellH_le hg c, cellH_le hg e, bytesOn_le hg f⟩⟩
theorem readsA_on {s : SV} {l : List Rd} {w : World} (h : Sat (readsA s l) w) : readsOn (hp w) s l := by
  simp only [readsA, sat_ex] at h
  obtain ⟨xs, h⟩ := h
  rw [sat_lift] at h
  obtain ⟨rfl, h⟩ := h
  have hC : ∀ x : SV × Rd, (rdC x).length = 3 := fun _ => rfl
  have e : (xs.flatMap fun x => [.int .i64 x.2.lba, slv x.1, .bool x.2.own]) = xs.flatMap rdC := rfl
  rw [e] at h
  have hn := ownS_length h
  rw [rdC_len] at hn
  refine ⟨by rw [List.length_map]; omega, fun i hi => ?_⟩
  rw [List.length_map] at hi
  obtain ⟨b, hb, hc⟩ := ownS_cell h (i := i * 3) (by rw [rdC_len]; omega)
  have cell : ∀ k, k < 3 → w.cell? ⟨b, i * 3 + k, none⟩ = (rdC xs[i])[k]? := fun k hk => by
    have hlt : i * 3 + k < (xs.flatMap rdC).length := by rw [rdC_len]; omega
    rw [hc _ hlt, ← List.getElem?_eq_getElem hlt, flat_get hC xs i k hi hk]
  refine ⟨⟨b, 0, none⟩, xs[i].1, hb, ?_, ?_, ?_, ?_⟩
  · rw [add_mk, Nat.zero_add, List.getElem_map]; exact cell 0 (by omega)
  · rw [add_mk, add_mk, Nat.zero_add]; exact cell 1 (by omega)
  · rw [add_mk, add_mk, Nat.zero_add, List.getElem_map]; exact cell 2 (by omega)
  · rw [List.getElem_map]
    exact byteRow_on (all_mem (A := fun x : SV × Rd => byteRow x.1 x.2.data) (List.getElem_mem hi) h.right)
set_option maxHeartbeats 1000000 in
theorem samehist_c {st be ti : Int} {s t u v : SV} {rd : List Rd} {ps : List Put} {w : World} {K : Bool → World → Prop} (hs : readsOn (hp w) s rd) (ht : readsOn (hp w) t rd) (hu : putsOn (hp w) u ps) (hv : putsOn (hp w) v ps) (hrl : rd.length ≤ 2 ^ 60 ∧ ∀ x ∈ rd, x.data.length ≤ 2 ^ 60) (hpl : ps.length ≤ 2 ^ 60 ∧ ∀ x ∈ ps, x.data.length ≤ 2 ^ 60)
    {fr to : Int} (hk : ∀ w', Keep w w' → K true w') : c_scarpalike_SameHistory st be ti fr to s u st be ti fr to t v w K := by
  refine scarpalike_SameHistory_go ?_
  unfold f_scarpalike_SameHistory
  refine st_newF (St.of1 (sat_whole w)) fun w1 h1 => st_newF h1 fun w2 h2 => ?_
  have k2 : Keep w w2 := Keep.whole (h2.take 2 rfl).left
  have hsn := hs.1
  have htn := ht.1
  have hun := hu.1
  have hvn := hv.1
  refine ⟨_, st_c0 h2 1 rfl rfl, _, st_c0 h2 0 rfl rfl, bsplit_iff.2 ⟨fun e => by simp at e, fun _ => ⟨_, st_c1 h2 1 rfl rfl, _, st_c1 h2 0 rfl rfl, bsplit_iff.2 ⟨fun e => by simp at e, fun _ => ⟨_, st_c1 h2 1 rfl rfl, _, st_c1 h2 0 rfl rfl, bsplit_iff.2 ⟨fun e => by simp at e, fun _ => ⟨_, st_c1 h2 1 rfl rfl, _, st_c1 h2 0 rfl rfl, bsplit_iff.2 ⟨fun e => by simp at e, fun _ => ⟨_, st_c1 h2 1 rfl rfl, _, st_c1 h2 0 rfl rfl, bsplit_iff.2 ⟨fun e => by simp at e, fun _ => ?_⟩⟩⟩⟩⟩⟩⟩⟩⟩⟩
  refine ⟨s, st_c1 h2 1 rfl rfl, t, st_c1 h2 0 rfl rfl, bsplit_iff.2 ⟨fun e => by simp [hsn, htn] at e, fun _ => ⟨u, st_c1 h2 1 rfl rfl, v, st_c1 h2 0 rfl rfl, bsplit_iff.2 ⟨fun e => by simp [hun, hvn] at e, fun _ => ?_⟩⟩⟩⟩
  have c1 := st_c1 (o := 0) (k := 5) (v := .slice s.a s.n s.c) h2 1 rfl rfl
  have c2 := st_c1 (o := 0) (k := 5) (v := .slice t.a t.n t.c) h2 0 rfl rfl
  have c3 := st_c1 (o := 0) (k := 6) (v := .slice u.a u.n u.c) h2 1 rfl rfl
  have c4 := st_c1 (o := 0) (k := 6) (v := .slice v.a v.n v.c) h2 0 rfl rfl
  refine loop_i (fun (x : Bool × Int) w' => ∃ i : Nat, x = (false, (i : Int)) ∧ i ≤ rd.length ∧ Keep w2 w') (fun x _ => rd.length - x.2.toNat) ⟨0, rfl, by omega, Keep.refl _⟩ ?_
  rintro x w8 ⟨i, rfl, hi, k8⟩
  refine ⟨s, keep_cell k8 c1, bsplit_decide.2 ⟨fun hlt => ?_, fun hge => ?_⟩⟩
  · have hlt' : i < rd.length := by simp at hlt; omega
    have k9 := k8.trans (Keep.drew w8)
    rw [withW_iff]
    generalize w8.drew = w12 at k9 ⊢
    have kk := k2.trans k9
    obtain ⟨ad, d, ha, g1, g2, g3, g4⟩ := (readsOn_le (keep_le kk) hs).2 i hlt'
    obtain ⟨ad', d', ha', g1', g2', g3', g4'⟩ := (readsOn_le (keep_le kk) ht).2 i hlt'
    have q1 : ∀ w', Keep w12 w' → w'.cell? ((⟨w.heap.size, 0, none⟩ : Addr).add 5) = some (.slice s.a s.n s.c) := fun w' k => keep_cell (k9.trans k) c1
    have q2 : ∀ w', Keep w12 w' → w'.cell? ((⟨w1.heap.size, 0, none⟩ : Addr).add 5) = some (.slice t.a t.n t.c) := fun w' k => keep_cell (k9.trans k) c2
    have hlt2 : (i : Int) < ((t.n : Nat) : Int) := by simp at hlt; omega
    have e1 := inc_of hlt' (by omega)
    refine ⟨Keep w12, Keep.refl _, s, q1, by omega, hlt, onP_i ha ⟨_, fun w' k => keep_cell k g1, t, q2, by omega, hlt2, onP_i ha' ⟨_, fun w' k => keep_cell k g1', bsplit_iff.2 ⟨fun e => by simp at e, fun _ => ⟨s, q1, by omega, hlt, onP_i ha ⟨_, fun w' k => keep_cell k g3, t, q2, by omega, hlt2, onP_i ha' ⟨_, fun w' k => keep_cell k g3', bsplit_iff.2 ⟨fun e => by simp at e, fun _ =>
      ⟨s, q1, by omega, hlt, onP_i ha ⟨d, fun w' k => keep_cell k g2, t, q2, by omega, hlt2, onP_i ha' ⟨d', fun w' k => keep_cell k g2', ?_⟩⟩⟩⟩⟩⟩⟩⟩⟩⟩⟩
    refine bytes_c g4 g4' (hrl.2 _ (List.getElem_mem hlt')) fun w54 k54 => ⟨k54, bsplit_iff.2 ⟨fun e => by simp at e, fun _ => ⟨⟨i + 1, by rw [e1], by omega, k9.trans k54⟩, by simp only [e1]; omega⟩⟩⟩
  · refine loop_i (fun (x : Bool × Int) w' => ∃ i : Nat, x = (false, (i : Int)) ∧ i ≤ ps.length ∧ Keep w2 w') (fun x _ => ps.length - x.2.toNat) ⟨0, rfl, by omega, k8⟩ ?_
    rintro x w9 ⟨i, rfl, hi, k8⟩
    refine ⟨u, keep_cell k8 c3, bsplit_decide.2 ⟨fun hlt => ?_, fun hge => hk _ (k2.trans k8)⟩⟩
    have hlt' : i < ps.length := by simp at hlt; omega
    have k9 := k8.trans (Keep.drew w9)
    rw [withW_iff]
    generalize w9.drew = w12 at k9 ⊢
    have kk := k2.trans k9
    obtain ⟨ad, d, ha, g1, g2, g4⟩ := (putsOn_le (keep_le kk) hu).2 i hlt'
    obtain ⟨ad', d', ha', g1', g2', g4'⟩ := (putsOn_le (keep_le kk) hv).2 i hlt'
    have q1 : ∀ w', Keep w12 w' → w'.cell? ((⟨w.heap.size, 0, none⟩ : Addr).add 6) = some (.slice u.a u.n u.c) := fun w' k => keep_cell (k9.trans k) c3
    have q2 : ∀ w', Keep w12 w' → w'.cell? ((⟨w1.heap.size, 0, none⟩ : Addr).add 6) = some (.slice v.a v.n v.c) := fun w' k => keep_cell (k9.trans k) c4
    have hlt2 : (i : Int) < ((v.n : Nat) : Int) := by simp at hlt; omega
    have e1 := inc_of hlt' (by omega)
    refine ⟨Keep w12, Keep.refl _, u, q1, by omega, hlt, onP_i ha ⟨_, fun w' k => keep_cell k g1, v, q2, by omega, hlt2, onP_i ha' ⟨_, fun w' k => keep_cell k g1', bsplit_iff.2 ⟨fun e => by simp at e, fun _ =>
      ⟨u, q1, by omega, hlt, onP_i ha ⟨d, fun w' k => keep_cell k g2, v, q2, by omega, hlt2, onP_i ha' ⟨d', fun w' k => keep_cell k g2', ?_⟩⟩⟩⟩⟩⟩⟩
    refine bytes_c g4 g4' (hpl.2 _ (List.getElem_mem hlt')) fun w54 k54 => ⟨k54, bsplit_iff.2 ⟨fun e => by simp at e, fun _ => ⟨⟨i + 1, by rw [e1], by omega, k9.trans k54⟩, by simp only [e1]; omega⟩⟩⟩
section
variable {p : Nat} {M : Mgr} {F : Heap → Prop} {R : HP} {w : World}
theorem st_s7 {l : List HP} {b : Nat} {u0 u1 u2 u3 u4 u5 u6 v0 v1 v2 v3 v4 v5 v6 : Value} {K : World → Prop} (h : St l w) (i : Nat) (e : l[i]? = some (objA (some ⟨b, 0, none⟩) [u0, u1, u2, u3, u4, u5, u6])) (hK : ∀ w', St (l.set i (objA (some ⟨b, 0, none⟩) [v0, v1, v2, v3, v4, v5, v6])) w' → K w') :
    (((∃ u, w.cell? (⟨b, 0, none⟩ : Addr) = some u) ∧ w.frozen? (⟨b, 0, none⟩ : Addr) = false) ∧ ((∃ u, w.cell? ((⟨b, 0, none⟩ : Addr).add 1) = some u) ∧ w.frozen? ((⟨b, 0, none⟩ : Addr).add 1) = false) ∧ ((∃ u, w.cell? ((⟨b, 0, none⟩ : Addr).add 2) = some u) ∧ w.frozen? ((⟨b, 0, none⟩ : Addr).add 2) = false) ∧ ((∃ u, w.cell? ((⟨b, 0, none⟩ : Addr).add 3) = some u) ∧ w.frozen? ((⟨b, 0, none⟩ : Addr).add 3) = false) ∧ ((∃ u, w.cell? ((⟨b, 0, none⟩ : Addr).add 4) = some u) ∧ w.frozen? ((⟨b, 0, none⟩ : Addr).add 4) = false) ∧ ((∃ u, w.cell? ((⟨b, 0, none⟩ : Addr).add 5) = some u) ∧ w.frozen? ((⟨b, 0, none⟩ : Addr).add 5) = false) ∧ ((∃ u, w.cell? ((⟨b, 0, none⟩ : Addr).add 6) = some u) ∧ w.frozen? ((⟨b, 0, none⟩ : Addr).add 6) = false)) ∧ (true = true) ∧
      withW (((((((w.setCell (⟨b, 0, none⟩ : Addr) v0).setCell ((⟨b, 0, none⟩ : Addr).add 1) v1).setCell ((⟨b, 0, none⟩ : Addr).add 2) v2).setCell ((⟨b, 0, none⟩ : Addr).add 3) v3).setCell ((⟨b, 0, none⟩ : Addr).add 4) v4).setCell ((⟨b, 0, none⟩ : Addr).add 5) v5).setCell ((⟨b, 0, none⟩ : Addr).add 6) v6) K := by
  have h1 := h.take i e
  obtain ⟨hc, hf⟩ := objA_cells h1
  simp only [add_mk, Nat.zero_add]
  refine ⟨⟨⟨⟨u0, hc 0⟩, hf 0⟩, ⟨⟨u1, hc 1⟩, hf 1⟩, ⟨⟨u2, hc 2⟩, hf 2⟩, ⟨⟨u3, hc 3⟩, hf 3⟩, ⟨⟨u4, hc 4⟩, hf 4⟩, ⟨⟨u5, hc 5⟩, hf 5⟩, ⟨u6, hc 6⟩, hf 6⟩, trivial, ?_⟩
  exact hK _ (St.put (objA_set (objA_set (objA_set (objA_set (objA_set (objA_set (objA_set h1 0 v0) 1 v1) 2 v2) 3 v3) 4 v4) 5 v5) 6 v6) e)
theorem rd_on {F : Heap → Prop} {l : List HP} {rs : SV} {ys : List (SV × Rd)} (h : St l w) (i : Nat) (hi : l[i]? = some (ownS 3 rs (ys.flatMap rdC))) (hh : F (hp w)) (hy : ∀ y ∈ ys, Known F (y.1, y.2.data)) : readsOn (hp w) rs (ys.map Prod.snd) := by
  have h1 := h.take i hi
  have hC : ∀ x : SV × Rd, (rdC x).length = 3 := fun _ => rfl
  have hn := ownS_length h1
  rw [rdC_len] at hn
  refine ⟨by rw [List.length_map]; omega, fun i hi => ?_⟩
  rw [List.length_map] at hi
  obtain ⟨b, hb, hc⟩ := ownS_cell h1 (i := i * 3) (by rw [rdC_len]; omega)
  have cell : ∀ k, k < 3 → w.cell? ⟨b, i * 3 + k, none⟩ = (rdC ys[i])[k]? := fun k hk => by
    have hlt : i * 3 + k < (ys.flatMap rdC).length := by rw [rdC_len]; omega
    rw [hc _ hlt, ← List.getElem?_eq_getElem hlt, flat_get hC ys i k hi hk]
  refine ⟨⟨b, 0, none⟩, ys[i].1, hb, ?_, ?_, ?_, ?_⟩
  · rw [add_mk, Nat.zero_add, List.getElem_map]; exact cell 0 (by omega)
  · rw [add_mk, add_mk, Nat.zero_add]; exact cell 1 (by omega)
  · rw [add_mk, add_mk, Nat.zero_add, List.getElem_map]; exact cell 2 (by omega)
  · rw [List.getElem_map]
    exact hy _ (List.getElem_mem hi) _ hh
theorem ref_history {N : Nat} {i : Int} {K : (Int × Int × Int × Int × Int × SV × SV) → World → Prop} (h : Ref p M F R w) (wf : Wf M.queue M) (ok : MgrOk N M) (hN : N ≤ 2 ^ 11)
    (hk : ∀ s t w', Ref p M F R w' → readsOn (hp w') s (Mgr.hist M i).2.2.2.1 → KPuts F t (Mgr.hist M i).2.2.2.2 → K ((Mgr.hist M i).1, (Mgr.hist M i).2.1, (Mgr.hist M i).2.2.1, 0, 0, s, t) w') : c_scarpref23_Manager_History (some ⟨p, 0, none⟩) i w K := by
  obtain ⟨hF, bm, ts, sh, st, sq, qh, sv, xs, hf, h1⟩ := h
  have hn := xs_le wf ok hN hf.all
  refine scarpref23_Manager_History_go ?_
  unfold f_scarpref23_Manager_History
  have hts := st_len h1 3 rfl
  rw [List.length_map] at hts
  have h0 : ∀ (w' : World) (A : HP), St [A, pool F, mgO p bm ts sh st sq qh M, mpO bm sv M, tsO ts xs, Sl.all xs (trR bm), R] w' → Ref p M F R w' := fun w' A h' => ⟨hF, bm, ts, sh, st, sq, qh, sv, xs, hf, h'.cut 0 (by simp)⟩
  refine st_newF h1 fun w1 h2 => ?_
  have out : ¬ (1 ≤ i ∧ i ≤ xs.length) → f_scarpref23_Manager_History_p1 w1 w K := fun hq => by
    have e : Mgr.hist M i = (0, 0, 0, [], []) := by
      unfold Mgr.hist
      cases e : lkp M.all i with
      | none => rfl
      | some T =>
        obtain ⟨j, hj, rfl, _⟩ := at_of hf.all e
        omega
    rw [e] at hk
    unfold f_scarpref23_Manager_History_p1 f_scarpref23_Manager_History_p2 f_scarpref23_Manager_History_p3
    refine st_s7 h2 0 rfl fun w2 h3 => ⟨(0, 0, 0, 0, 0, ⟨none, 0, 0⟩, ⟨none, 0, 0⟩), ⟨st_c0 h3 0 rfl rfl, st_c1 h3 0 rfl rfl, st_c1 h3 0 rfl rfl, st_c1 h3 0 rfl rfl, st_c1 h3 0 rfl rfl, st_c1 h3 0 rfl rfl, st_c1 h3 0 rfl rfl⟩, ?_⟩
    exact hk ⟨none, 0, 0⟩ ⟨none, 0, 0⟩ w2 (h0 _ _ h3) ⟨rfl, fun i hi => by simp at hi⟩ KPuts.nil
  refine bsplit_decide.2 ⟨fun q => out (by omega), fun q1 => ?_⟩
  rw [onP_some]
  refine ⟨ts, st_c1 h2 2 rfl rfl, bsplit_decide.2 ⟨fun q => out (by omega), fun q2 => ?_⟩⟩
  obtain ⟨j, rfl⟩ : ∃ j : Nat, i = (j : Int) + 1 := ⟨(i - 1).toNat, by omega⟩
  have hj : j < xs.length := by omega
  have ew : IntKind.i64.wrap ((j : Int) + 1 - 1) = (j : Int) := by rw [wrap_of (by omega) (by omega)]; omega
  have hl := lkp_at hf.all hj
  have e : Mgr.hist M ((j : Int) + 1) = (xs[j].2.state, xs[j].2.at_, xs[j].2.time, xs[j].2.view.reads, xs[j].2.buf.puts) := by unfold Mgr.hist; rw [hl]
  rw [e] at hk
  rw [onP_some, ew]
  refine ⟨ts, st_c1 h2 2 rfl rfl, by omega, by omega, st_own h2 4 rfl (by rw [List.length_map]; omega) fun b hb hc => ⟨some ⟨xs[j].1.p, 0, none⟩, ?_, ?_⟩⟩
  · rw [add_mk]
    refine hc _ _ ?_
    simp only [Int.toNat_natCast, Nat.mul_one, Nat.zero_add]
    rw [List.getElem?_map, List.getElem?_eq_getElem hj]; rfl
  have t := hf.tr _ (List.getElem_mem hj)
  refine st_drew h2 fun w13 h13 => ?_
  have sp : ∀ {w' : World} {A : HP}, St [A, pool F, mgO p bm ts sh st sq qh M, mpO bm sv M, tsO ts xs, Sl.all xs (trR bm), R] w' → St [pool F, tV bm xs[j].1 xs[j].2, mpO bm sv M, tB xs[j].1 xs[j].2, tR xs[j].1, tP xs[j].1 xs[j].2, mgO p bm ts sh st sq qh M, tsO ts xs, Sl.all (xs.eraseIdx j) (trR bm), R] w' := fun h => rsplit (h.cut 0 (by simp)) hj
  have hs := sp h13
  refine ⟨fun w' => w'.cell? ⟨xs[j].1.p, 0, none⟩ = some (.int .i64 xs[j].2.state) ∧ w'.cell? ((⟨xs[j].1.p, 0, none⟩ : Addr).add 3) = some (.pointer (some ⟨xs[j].1.v, 0, none⟩)) ∧ w'.cell? ((⟨xs[j].1.v, 0, none⟩ : Addr).add 2) = some (.int .i64 xs[j].2.view.at_) ∧ w'.cell? ((⟨xs[j].1.p, 0, none⟩ : Addr).add 1) = some (.int .i64 xs[j].2.time) ∧
    w'.cell? ((⟨xs[j].1.v, 0, none⟩ : Addr).add 5) = some (.slice xs[j].1.rs.a xs[j].1.rs.n xs[j].1.rs.c) ∧ w'.cell? ((⟨xs[j].1.p, 0, none⟩ : Addr).add 4) = some (.pointer (some ⟨xs[j].1.b, 0, none⟩)) ∧ w'.cell? ((⟨xs[j].1.b, 0, none⟩ : Addr).add 2) = some (.slice xs[j].1.bl.a xs[j].1.bl.n xs[j].1.bl.c),
    ⟨st_c0 hs 5 rfl rfl, st_c1 hs 5 rfl rfl, st_c1 hs 1 rfl rfl, st_c1 hs 5 rfl rfl, st_c1 hs 1 rfl rfl, st_c1 hs 5 rfl rfl, st_c1 hs 3 rfl rfl⟩, ?_⟩
  rw [onP_some]
  refine ⟨_, fun _ h => h.1, ?_⟩
  rw [onP_some]
  refine ⟨_, fun _ h => h.2.1, ?_⟩
  rw [onP_some]
  refine ⟨_, fun _ h => h.2.2.1, ?_⟩
  rw [onP_some]
  refine ⟨_, fun _ h => h.2.2.2.1, ?_⟩
  rw [onP_some]
  refine ⟨_, fun _ h => h.2.1, ?_⟩
  rw [onP_some]
  refine ⟨xs[j].1.rs, fun _ h => h.2.2.2.2.1, ?_⟩
  rw [onP_some]
  refine ⟨_, fun _ h => h.2.2.2.2.2.1, ?_⟩
  rw [onP_some]
  refine ⟨xs[j].1.bl, fun _ h => h.2.2.2.2.2.2, ?_⟩
  unfold f_scarpref23_Manager_History_p2 f_scarpref23_Manager_History_p3
  refine st_s7 h13 0 rfl fun w38 h38 => ⟨(xs[j].2.state, xs[j].2.view.at_, xs[j].2.time, 0, 0, xs[j].1.rs, xs[j].1.bl), ⟨st_c0 h38 0 rfl rfl, st_c1 h38 0 rfl rfl, st_c1 h38 0 rfl rfl, st_c1 h38 0 rfl rfl, st_c1 h38 0 rfl rfl, st_c1 h38 0 rfl rfl, st_c1 h38 0 rfl rfl⟩, ?_⟩
  have hs2 := sp h38
  have hro := rd_on hs2 4 rfl (st_pool hF hs2 0 rfl) t.yk
  rw [t.ys] at hro
  rw [t.at_]
  exact hk xs[j].1.rs xs[j].1.bl w38 (h0 _ _ h38) hro t.bl
end
end Go.Proofs.YtbolgpjcmchfoaaGreat
