/- Both managers side by side: one step. -/
import Derived.Test.YtbolgpjcmchfoaaGreatUp
import Derived.Test.YtbolgpjcmchfoaaGreatZ
import Derived.Test.YtbolgpjcmchfoaaGreatF6
namespace Go.Proofs.YtbolgpjcmchfoaaGreat
open Go Go.Vc Go.Sl Go.Mo
/-! ### What is known of arguments -/
theorem kputs_ofC {h0 : Heap} {F : Heap → Prop} {s : SV} {l : List Put} (hF : ∀ h, F h → leC h0 h) (hp : putsOn h0 s l) (hc : s.n ≤ s.c) : KPuts F s l := by
  have : ∀ i : Nat, ∃ d : SV, ∀ hi : i < l.length, ∃ ad, s.a = some ad ∧ cellH h0 (ad.add (i * 2)) = some (.int .i64 l[i].lba) ∧ cellH h0 ((ad.add (i * 2)).add 1) = some (.slice d.a d.n d.c) ∧ bytesOn h0 d l[i].data := fun i => by
    by_cases hi : i < l.length
    · obtain ⟨ad, d, a, b, c, e⟩ := hp.2 i hi
      exact ⟨d, fun _ => ⟨ad, a, b, c, e⟩⟩
    · exact ⟨⟨none, 0, 0⟩, fun h => absurd h hi⟩
  obtain ⟨f, hf⟩ := Classical.skolem.1 this
  have hlen : (l.mapIdx fun i x => (f i, x)).length = l.length := by simp
  refine ⟨l.mapIdx fun i x => (f i, x), ?_, ⟨?_, hc, fun h hh => ?_⟩, fun x hx h hh => ?_⟩
  · apply List.ext_getElem (by simp)
    intro i h1 h2
    simp
  · rw [flat_len (sz := 2) (fun _ => rfl), hlen, hp.1]
  · refine ⟨fun e => ?_, fun ad ha i hi => ?_⟩
    · have : l = [] := by
        cases l with
        | nil => rfl
        | cons x r =>
          obtain ⟨ad, _, a, _⟩ := hp.2 0 (by simp)
          rw [e] at a; cases a
      subst this; rfl
    · have h1 : i < l.length * 2 := by
        rw [flat_len (sz := 2) (fun _ => rfl), hlen] at hi; exact hi
      obtain ⟨k, r, hr, rfl⟩ : ∃ k r : Nat, r < 2 ∧ i = k * 2 + r := ⟨i / 2, i % 2, Nat.mod_lt _ (by omega), by omega⟩
      have hk : k < l.length := by omega
      have h2 := flat_get (C := putC) (sz := 2) (fun _ => rfl) (l.mapIdx fun i x => (f i, x)) k r (by rw [hlen]; exact hk) hr
      rw [List.getElem?_eq_getElem hi] at h2
      obtain ⟨ad', a1, a2, a3, _⟩ := hf k hk
      rw [ha] at a1; cases a1
      have h3 : ∀ v, cellH h0 (ad.add (k * 2 + r)) = some v → cellH h (ad.add (k * 2 + r)) = some v := fun v hv => hF h hh _ _ hv
      rw [h2]
      rw [add_add] at a3
      have hr' : r = 0 ∨ r = 1 := by omega
      rcases hr' with rfl | rfl
      · rw [h3 _ a2]; simp [putC]
      · rw [h3 _ a3]; simp [putC, slv]
  · obtain ⟨i, hi, rfl⟩ := List.getElem_of_mem hx
    have hi' : i < l.length := by rw [hlen] at hi; exact hi
    obtain ⟨_, _, _, _, h4⟩ := hf i hi'
    have := bytesOn_leC (hF h hh) h4
    simpa using this
theorem kputs_of {h0 : Heap} {F : Heap → Prop} {s : SV} {l : List Put} (hF : ∀ h, F h → le h0 h) (hp : putsOn h0 s l) (hc : s.n ≤ s.c) : KPuts F s l := kputs_ofC (fun h hh _ _ hv => cellH_le (hF h hh) hv) hp hc
theorem keep_of_le {w w' : World} (h : le (hp w) (hp w')) : Keep w w' := fun b hb => by
  have := h b (w.heap[b]) (by unfold hp; simp [hb])
  unfold hp at this
  rw [this]; simp [hb]
/-! ### The frame of the reference's manager -/
section
variable {px : Nat} {pm : Option Addr} {M : Mgr} {F : Heap → Prop} {Y : HP} {w : World}
theorem Ref.frame {A : HP} (h : Ref px M F (A * Y) w) : ∃ Z, Sat (A * Z) w ∧ (∀ w', Sat Z w' → F (hp w')) ∧ ∀ B w', Sat (B * Z) w' → Ref px M F (B * Y) w' := by
  obtain ⟨hF, bm, ts, sh, st, sq, qh, sv, xs, hf, h1⟩ := h
  refine ⟨pool F * (mgO px bm ts sh st sq qh M * (mpO bm sv M * (tsO ts xs * (Sl.all xs (trR bm) * Y)))), h1.to ?_, fun w' h' => pool_get hF h', fun B w' h' => ⟨hF, bm, ts, sh, st, sq, qh, sv, xs, hf, ?_⟩⟩
  · simp only [bigS, List.foldr, mul_one']; ac_rfl
  · refine Sat.eq h' ?_
    simp only [bigS, List.foldr, mul_one']; ac_rfl
theorem Ref.eq {A B : HP} (h : Ref px M F A w) (e : A = B) : Ref px M F B w := e ▸ h
theorem Ref.drop {A : HP} (h : Ref px M F (A * Y) w) : Ref px M F Y w := by
  obtain ⟨hF, bm, ts, sh, st, sq, qh, sv, xs, hf, h1⟩ := h
  refine ⟨hF, bm, ts, sh, st, sq, qh, sv, xs, hf, ?_⟩
  have h2 : Sat (A * bigS [pool F, mgO px bm ts sh st sq qh M, mpO bm sv M, tsO ts xs, Sl.all xs (trR bm), Y]) w := h1.to (by simp only [bigS, List.foldr, mul_one']; ac_rfl)
  exact h2.right
theorem Ref.fact (h : Ref px M F Y w) : F (hp w) := by
  obtain ⟨hF, bm, ts, sh, st, sq, qh, sv, xs, hf, h1⟩ := h
  exact st_pool hF h1 0 rfl
theorem Ref.keep {w' : World} (h : Ref px M F Y w) (k : Keep w w') : Ref px M F Y w' := by
  obtain ⟨hF, bm, ts, sh, st, sq, qh, sv, xs, hf, h1⟩ := h
  exact ⟨hF, bm, ts, sh, st, sq, qh, sv, xs, hf, h1.keep k⟩
theorem Ref.newF {t : Nat} {vs : List Value} {K : World → Prop} (h : Ref px M F Y w) (hK : ∀ w', Ref px M F (objA (some ⟨w.heap.size, 0, none⟩) vs * Y) w' → K w') : withW (w.alloc (.cells vs.toArray t)) K := by
  obtain ⟨hF, bm, ts, sh, st, sq, qh, sv, xs, hf, h1⟩ := h
  refine st_newF h1 fun w' h2 => hK w' ⟨hF, bm, ts, sh, st, sq, qh, sv, xs, hf, ?_⟩
  exact h2.to (by simp only [bigS, List.foldr, mul_one']; ac_rfl)
theorem Ref.cell {b k : Nat} {vs : List Value} {v : Value} (h : Ref px M F (objA (some ⟨b, 0, none⟩) vs * Y) w) (hv : vs[k]? = some v) : w.cell? ⟨b, k, none⟩ = some v := by
  obtain ⟨Z, h1, _⟩ := h.frame
  rw [(objA_cells h1).1 k]; exact hv
theorem Ref.left {A : HP} (h : Ref px M F (A * Y) w) : Sat A w := by
  obtain ⟨Z, h1, _⟩ := h.frame
  exact h1.left
theorem Ref.s2 {b : Nat} {u0 u1 v0 v1 : Value} {K : World → Prop} (h : Ref px M F (objA (some ⟨b, 0, none⟩) [u0, u1] * Y) w) (hK : ∀ w', Ref px M F (objA (some ⟨b, 0, none⟩) [v0, v1] * Y) w' → K w') :
    (((∃ u, w.cell? ⟨b, 0, none⟩ = some u) ∧ w.frozen? ⟨b, 0, none⟩ = false) ∧ ((∃ u, w.cell? ((⟨b, 0, none⟩ : Addr).add 1) = some u) ∧ w.frozen? ((⟨b, 0, none⟩ : Addr).add 1) = false)) ∧ (true = true) ∧
      withW ((w.setCell ⟨b, 0, none⟩ v0).setCell ((⟨b, 0, none⟩ : Addr).add 1) v1) K := by
  obtain ⟨Z, h1, _, h2⟩ := h.frame
  have h3 : St [objA (some ⟨b, 0, none⟩) [u0, u1], Z] w := St.of2 h1
  exact st_s2 h3 0 rfl fun w' h' => hK w' (h2 _ w' h'.to2)
/-! ### One step -/
def stpM (M : Mgr) (t : Stp) : Mgr :=
  if t.kind = 1 then M.begin.1 else if t.kind = 2 then (M.readE t.h t.e).1 else if t.kind = 3 then (M.write t.h t.l).1 else if t.kind = 4 then (M.commit t.h).1 else if t.kind = 5 then (M.abort t.h).1
  else if t.kind = 6 then M.batch.1 else if t.kind = 7 then (M.done t.n).1 else if t.kind = 8 then { M with read := !decide (t.n.tmod 2 = 0) } else if t.kind = 9 then M.prune.1 else M
theorem wf_stp (wf : Wf M.queue M) (t : Stp) : Wf (stpM M t).queue (stpM M t) := by
  have key : ∀ {M' : Mgr}, M'.queue = M.queue → Wf M.queue M' → Wf M'.queue M' := fun e h => by rw [e]; exact h
  unfold stpM
  split
  · refine key ?_ (wf_begin wf)
    unfold Mgr.begin; repeat' split
    all_goals rfl
  split
  · refine key ?_ (wf_read wf _ _)
    unfold Mgr.readE; split <;> rfl
  split
  · refine key ?_ (wf_write wf _ _)
    unfold Mgr.write; split <;> rfl
  split
  · exact wf_commit wf _
  split
  · refine key ?_ (wf_abort wf _)
    unfold Mgr.abort; split
    · rfl
    · unfold Mgr.end_; split <;> rfl
  split
  · refine key ?_ (wf_batch wf)
    unfold Mgr.batch; repeat' split
    all_goals rfl
  split
  · exact wf_done wf _
  split
  · exact wf_ro wf _
  split
  · exact wf_prune wf
  · exact wf
theorem read_bytes {N : Nat} {i : Int} {e : Ext} (ok : MgrOk N M) : (M.readE i e).2.1.length ≤ 2 ^ 60 := by
  have o2 := mgrOk_read ok i e
  unfold Mgr.readE at o2 ⊢
  cases ho : M.opn i with
  | none => simp
  | some T =>
    rw [ho] at o2
    simp only at o2 ⊢
    obtain ⟨B, I, _⟩ := o2
    have hr := (I.trn (i := i) (T := { T with view := (T.view.read M.m T.buf e).1 }) (by simp [lkp_put])).rdat
    simp only at hr
    unfold View.read at hr ⊢
    repeat' split
    · simp
    · simp
    · simp
    · rename_i q1 q2 q3
      rw [if_neg q1, if_neg q2, if_neg q3] at hr
      have hlen : ∀ l : List Int, (∀ k ∈ l, (seenB M.m T.buf T.view.at_ k).data.length = 40) → (l.flatMap fun k => (seenB M.m T.buf T.view.at_ k).data).length = l.length * 40 := by
        intro l
        induction l with
        | nil => intro _; rfl
        | cons x r ih => intro h; rw [List.flatMap_cons, List.length_append, h x (by simp), ih fun k hk => h k (by simp [hk]), List.length_cons]; omega
      simp only
      rw [hlen _ fun k hk => hr _ (by simp only [List.mem_append, List.mem_map]; exact .inr ⟨k, hk, rfl⟩)]
      have : (blocksOf e).length ≤ 16 := by
        unfold blocksOf; simp; omega
      omega
theorem does_c {N : Nat} {t : Stp} {d : SV} {K : Bool → World → Prop} (h : Ref px M F (mgrA pm M * Y) w) (wf : Wf M.queue M) (ok : MgrOk N M) (hN : N ≤ 2 ^ 10) (hl : KPuts F d t.l) (hln : t.l.length ≤ 2 ^ 20)
    (hk : ∀ F' w', (∀ h, F' h → F h) → MgrOk (N + 1) (stpM M t) → Ref px (stpM M t) F' (mgrA pm (stpM M t) * Y) w' → K true w') : c_scarplaw23_does pm (some ⟨px, 0, none⟩) t.kind t.h t.e.first t.e.len d t.n w K := by
  refine scarplaw23_does_go ?_
  unfold f_scarplaw23_does
  refine h.newF fun w1 h1 => ?_
  generalize w.heap.size = b at h1 ⊢
  have cell : ∀ {M' : Mgr} {F' : Heap → Prop} {A : HP} {w' : World} {k : Nat} {v : Value}, Ref px M' F' (objA (some ⟨b, 0, none⟩) (stpCells t d) * A) w' → (stpCells t d)[k]? = some v → w'.cell? ((⟨b, 0, none⟩ : Addr).add k) = some v := fun h' hv => by
    rw [add_mk, Nat.zero_add]; exact h'.cell hv
  have h2 : Ref px M F (mgrA pm M * (objA (some ⟨b, 0, none⟩) (stpCells t d) * Y)) w1 := h1.eq (by unfold stpCells slv; ac_rfl)
  clear h1 h
  obtain ⟨Z, g1, g2, g3⟩ := h2.frame
  -- what a call leaves
  have fin : ∀ {F' : Heap → Prop} {w' : World} {M' : Mgr}, (∀ h, F' h → F h) → M' = stpM M t → MgrOk (N + 1) (stpM M t) → Ref px M' F' (mgrA pm M' * (objA (some ⟨b, 0, none⟩) (stpCells t d) * Y)) w' → K true w' := fun {F' w' M'} hf e ok' h' => by
    subst e
    exact hk F' w' hf ok' (Ref.drop (A := objA (some ⟨b, 0, none⟩) (stpCells t d)) (h'.eq (by ac_rfl)))
  have tail : ∀ {A B : HP} {M' : Mgr} {F' : Heap → Prop} {w' : World}, Ref px M' F' (A * (objA (some ⟨b, 0, none⟩) (stpCells t d) * B)) w' → Ref px M' F' (objA (some ⟨b, 0, none⟩) (stpCells t d) * (A * B)) w' := fun h => h.eq (by ac_rfl)
  have ok1 := ok.mono (N' := N + 1) (by omega)
  refine ⟨t.kind, (tail h2).cell (k := 0) rfl, ?_⟩
  refine bsplit_decide.2 ⟨fun q => ?_, fun q1 => bsplit_decide.2 ⟨fun q => ?_, fun q2 => bsplit_decide.2 ⟨fun q => ?_, fun q3 => bsplit_decide.2 ⟨fun q => ?_, fun q4 => bsplit_decide.2 ⟨fun q => ?_, fun q5 => bsplit_decide.2 ⟨fun q => ?_, fun q6 => bsplit_decide.2 ⟨fun q => ?_, fun q7 => bsplit_decide.2 ⟨fun q => ?_, fun q8 => bsplit_decide.2 ⟨fun q => ?_, fun q9 => ?_⟩⟩⟩⟩⟩⟩⟩⟩⟩
  · have e : stpM M t = M.begin.1 := by unfold stpM; rw [if_pos q]
    refine ok_begin g1 ok (by omega) fun w2 o2 s2 => ?_
    refine ref_begin (g3 _ _ s2) wf ok (by omega) fun F' w3 hf h3 => ?_
    refine bsplit_decide.2 ⟨fun _ => ?_, fun n => absurd rfl n⟩
    rw [decide_eq_true rfl]
    exact fin hf e.symm (e ▸ o2) h3
  · have e : stpM M t = (M.readE t.h t.e).1 := by unfold stpM; rw [if_neg q1, if_pos q]
    refine ⟨t.h, cell (tail h2) rfl, (t.e.first, t.e.len), ⟨cell (tail h2) rfl, by rw [add_mk, add_mk]; exact (tail h2).cell (k := 0 + 2 + 1) rfl⟩, ?_⟩
    refine ok_read g1 ok (by omega) fun s w2 o2 s2 => ?_
    have h3 := g3 _ _ (s2.eq (mul_assoc' _ _ _).symm)
    have h3' : Ref px M F (byteRow s (M.readE t.h t.e).2.1 * mgrA pm (M.readE t.h t.e).1 * (objA (some ⟨b, 0, none⟩) (stpCells t d) * Y)) w2 := h3
    refine ⟨t.h, cell (tail h3') rfl, (t.e.first, t.e.len), ⟨cell (tail h3') rfl, by rw [add_mk, add_mk]; exact (tail h3').cell (k := 0 + 2 + 1) rfl⟩, ?_⟩
    refine ref_read h3' wf ok (by omega) fun F' s' w3 hf h4 => ?_
    refine bytes_c (byteRow_on (Ref.left (h4.drop.eq (mul_assoc' _ _ _)))) (byteRow_on h4.left) (read_bytes ok) fun w4 k4 => ?_
    rw [decide_eq_true rfl]
    refine bsplit_iff.2 ⟨fun _ => ?_, fun e => by cases e⟩
    rw [decide_eq_true rfl]
    exact fin hf e.symm (e ▸ o2) ((Ref.drop (h4.drop.eq (mul_assoc' _ _ _))).keep k4)
  · have e : stpM M t = (M.write t.h t.l).1 := by unfold stpM; rw [if_neg q1, if_neg q2, if_pos q]
    rw [withW_iff]
    refine ⟨fun w' => w'.cell? ((⟨b, 0, none⟩ : Addr).add 1) = some (.int .i64 t.h) ∧ w'.cell? ((⟨b, 0, none⟩ : Addr).add 4) = some (slv d), ⟨cell (tail h2) rfl, cell (tail h2) rfl⟩, t.h, fun _ h => h.1, d, fun _ h => h.2, t.h, fun _ h => h.1, d, fun _ h => h.2, ?_⟩
    refine ok_write (g1.drew) ok (fun w' h' => hl.on (g2 w' h')) (by omega) fun w2 o2 s2 => ?_
    have h3 := g3 _ _ s2
    refine ⟨⟨cell (tail h3) rfl, cell (tail h3) rfl⟩, ?_⟩
    refine ref_write h3 wf ok (by omega) hl hln fun F' w3 hf h4 => ?_
    refine ⟨⟨cell (tail h4) rfl, cell (tail h4) rfl⟩, ?_⟩
    rw [decide_eq_true rfl]
    exact fin hf e.symm (e ▸ o2.mono (by omega)) h4
  · have e : stpM M t = (M.commit t.h).1 := by unfold stpM; rw [if_neg q1, if_neg q2, if_neg q3, if_pos q]
    rw [withW_iff]
    refine ⟨fun w' => w'.cell? ((⟨b, 0, none⟩ : Addr).add 1) = some (.int .i64 t.h), cell (tail h2) rfl, t.h, fun _ h => h, t.h, fun _ h => h, ?_⟩
    refine ok_commit (g1.drew) ok (by omega) fun w2 o2 s2 => ?_
    have h3 := g3 _ _ s2
    refine ⟨cell (tail h3) rfl, ?_⟩
    refine ref_commit h3 wf ok (by omega) fun F' w3 hf h4 => ?_
    refine ⟨cell (tail h4) rfl, ?_⟩
    rw [decide_eq_true rfl]
    exact fin hf e.symm (e ▸ o2) h4
  · have e : stpM M t = (M.abort t.h).1 := by unfold stpM; rw [if_neg q1, if_neg q2, if_neg q3, if_neg q4, if_pos q]
    rw [withW_iff]
    refine ⟨fun w' => w'.cell? ((⟨b, 0, none⟩ : Addr).add 1) = some (.int .i64 t.h), cell (tail h2) rfl, t.h, fun _ h => h, t.h, fun _ h => h, ?_⟩
    refine ok_abort (g1.drew) ok fun w2 o2 s2 => ?_
    have h3 := g3 _ _ s2
    refine ⟨cell (tail h3) rfl, ?_⟩
    refine ref_abort h3 wf ok (by omega) fun F' w3 hf h4 => ?_
    refine ⟨cell (tail h4) rfl, ?_⟩
    rw [decide_eq_true rfl]
    exact fin hf e.symm (e ▸ o2.mono (by omega)) h4
  · have e : stpM M t = M.batch.1 := by unfold stpM; rw [if_neg q1, if_neg q2, if_neg q3, if_neg q4, if_neg q5, if_pos q]
    refine ok_batch g1 ok (by omega) fun s' w2 o2 s2 => ?_
    have h3 := (g3 _ _ (s2.eq (mul_assoc' _ _ _).symm))
    refine h3.newF fun w3 h4 => ?_
    unfold f_scarplaw23_does_p1
    refine h4.s2 fun w4 h5 => ?_
    refine ref_batch h5 wf ok (by omega) fun s2' w5 h6 kt => ?_
    refine h6.newF fun w6 h7 => ?_
    refine h7.s2 fun w7 h8 => ?_
    refine ⟨(M.batch.2.1.1, s'), ⟨h8.drop.cell (k := 0) rfl, by rw [add_mk]; exact h8.drop.cell (k := 0 + 1) rfl⟩, (M.batch.2.1.1, s2'), ⟨h8.cell (k := 0) rfl, by rw [add_mk]; exact h8.cell (k := 0 + 1) rfl⟩, ?_⟩
    have wo : WaitOk M := by obtain ⟨B, I, _⟩ := ok; exact I.wait (by omega)
    have hwl := waiting_len wo
    have hwp := waiting_puts wo
    have hql := wo.1
    have hb : M.batch.2.1.2.length ≤ 2 ^ 60 ∧ ∀ x ∈ M.batch.2.1.2, x.puts.length ≤ 2 ^ 60 := by
      unfold Mgr.batch
      repeat' split
      · simp
      · simp
      · refine ⟨?_, fun x hx => ?_⟩
        · simp only [List.length_take]; omega
        · have := hwp x (List.mem_of_mem_take hx); omega
    obtain ⟨Z3, k1, _, k3⟩ := (h8.drop.drop.eq (mul_assoc' _ _ _)).frame
    refine samebatch_c (batchA_on k1) (kt.on h8.fact) hb fun w8 k8 => ?_
    refine bsplit_iff.2 ⟨fun _ => ?_, fun e => by cases e⟩
    rw [decide_eq_true rfl]
    exact fin (fun _ h => h) e.symm (e ▸ o2.mono (by omega)) ((h8.drop.drop.eq (mul_assoc' _ _ _)).drop.keep k8)
  · have e : stpM M t = (M.done t.n).1 := by unfold stpM; rw [if_neg q1, if_neg q2, if_neg q3, if_neg q4, if_neg q5, if_neg q6, if_pos q]
    rw [withW_iff]
    refine ⟨fun w' => w'.cell? ((⟨b, 0, none⟩ : Addr).add 5) = some (.int .i64 t.n), cell (tail h2) rfl, t.n, fun _ h => h, t.n, fun _ h => h, ?_⟩
    refine ok_done (g1.drew) ok (by omega) fun w2 o2 s2 => ?_
    have h3 := g3 _ _ s2
    refine ⟨cell (tail h3) rfl, ?_⟩
    refine ref_done h3 wf ok (by omega) fun F' w3 hf h4 => ?_
    refine ⟨cell (tail h4) rfl, ?_⟩
    rw [decide_eq_true rfl]
    exact fin hf e.symm (e ▸ o2) h4
  · have e : stpM M t = { M with read := !decide (t.n.tmod 2 = 0) } := by unfold stpM; rw [if_neg q1, if_neg q2, if_neg q3, if_neg q4, if_neg q5, if_neg q6, if_neg q7, if_pos q]
    refine ⟨t.n, cell (tail h2) rfl, rfl, by omega, ?_⟩
    refine ok_ro g1 ok fun w2 o2 s2 => ?_
    have h3 := g3 _ _ s2
    refine ⟨t.n, cell (tail h3) rfl, rfl, by omega, ?_⟩
    rw [onP_some]
    obtain ⟨hF, bm, ts, sh, st, sq, qh, sv, xs, hf, h4⟩ := h3
    refine st_s1 h4 1 rfl (by simp [rcells]) fun w3 h5 => ?_
    exact fin (fun _ h => h) e.symm (e ▸ o2.mono (by omega)) ⟨hF, bm, ts, sh, st, sq, qh, sv, xs, ⟨hf.vers, hf.bh, hf.bt, hf.q, hf.qh, hf.tr, hf.all⟩, h5⟩
  · have e : stpM M t = M.prune.1 := by unfold stpM; rw [if_neg q1, if_neg q2, if_neg q3, if_neg q4, if_neg q5, if_neg q6, if_neg q7, if_neg q8, if_pos q]
    refine ok_prune g1 ok (by omega) fun w2 o2 s2 => ?_
    refine ref_prune (g3 _ _ s2) wf ok (by omega) fun F' w3 hf h3 => ?_
    rw [decide_eq_true rfl]
    exact fin hf e.symm (e ▸ o2.mono (by omega)) h3
  · have e : stpM M t = M := by unfold stpM; rw [if_neg q1, if_neg q2, if_neg q3, if_neg q4, if_neg q5, if_neg q6, if_neg q7, if_neg q8, if_neg q9]
    exact fin (fun _ h => h) e.symm (by rw [e]; exact ok1) h2
end
end Go.Proofs.YtbolgpjcmchfoaaGreat
