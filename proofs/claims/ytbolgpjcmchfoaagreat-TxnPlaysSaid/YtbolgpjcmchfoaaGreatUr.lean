/- The law TxnPlays: both managers play the same steps and answer the same. -/
import Derived.Test.YtbolgpjcmchfoaaGreatUq
import Derived.Test.YtbolgpjcmchfoaaGreatLa
namespace Go.Proofs.YtbolgpjcmchfoaaGreat
open Go Go.Vc Go.Sl Go.Mo
theorem mgr_new_bad {n last : Int} {w : World} {K : Option Addr × Int → World → Prop} (hn : n < 1 ∨ 1048576 < n ∨ last < 0 ∨ 1099511627776 < last) (hk : ∀ w', Keep w w' → K (none, 1) w') : c_txn_New n last w K := by
  refine txn_New_go (extmap_New_go ?_)
  unfold f_extmap_New
  refine bsplit_decide.2 ⟨fun q => bsplit_iff.2 ⟨fun _ => hk _ (Keep.refl w), fun e => (by cases e)⟩, fun _ => bsplit_decide.2 ⟨fun q => bsplit_iff.2 ⟨fun _ => hk _ (Keep.refl w), fun e => (by cases e)⟩, fun _ => ?_⟩⟩
  rw [withW_iff, withW_iff]
  have k1 := (Keep.alloc w (.map #[] 0)).trans (Keep.alloc _ (.cells #[.int .i64 n, .map (some w.heap.size), .int .i64 0] 164))
  exact bsplit_iff.2 ⟨fun e => (by cases e), fun _ => bsplit_decide.2 ⟨fun q => hk _ k1, fun _ => bsplit_decide.2 ⟨fun q => hk _ k1, fun _ => by omega⟩⟩⟩
theorem keep_of_le {w w' : World} (h : le (hp w) (hp w')) : Keep w w' := fun b hb => by
  have := h b (w.heap[b]) (by unfold hp; simp [hb])
  unfold hp at this
  rw [this]; simp [hb]
/-- What the histories are, told apart from the memory. -/
theorem hist_in {N : Nat} {M : Mgr} (ok : MgrOk N M) (hN : N ≤ 2 ^ 11) (i : Int) : ((Mgr.hist M i).2.2.2.1.length ≤ 2 ^ 60 ∧ ∀ x ∈ (Mgr.hist M i).2.2.2.1, x.data.length ≤ 2 ^ 60) ∧ (Mgr.hist M i).2.2.2.2.length ≤ 2 ^ 60 ∧ ∀ x ∈ (Mgr.hist M i).2.2.2.2, x.data.length ≤ 2 ^ 60 := by
  obtain ⟨B, I, hB⟩ := ok
  unfold Mgr.hist
  cases h : lkp M.all i with
  | none => simp
  | some T =>
    have t := I.trn h
    have hr := I.rds _ (lkp_mem h)
    simp only at hr ⊢
    refine ⟨⟨by omega, fun x hx => by rw [t.rdat x hx]; omega⟩, ?_, fun x hx => ?_⟩
    · have := t.buf.len
      rw [puts_length]; omega
    · have hx' := mem_puts.1 hx
      rw [(t.buf.data _ (lkp_mem hx')).2]; omega
theorem plays_c {n last : Int} {ps s : SV} {pl : List Put} {l : List Stp} {w : World} {K : Bool → World → Prop} (hpa : PutsArg w [.slice ps.a ps.n ps.c] pl) (hs : StepsArg w s l) (hk : ∀ w', Keep w w' → K true w') : c_scarplaw23_TxnPlays n last ps s w K := by
  refine scarplaw23_TxnPlays_go ?_
  unfold f_scarplaw23_TxnPlays
  obtain ⟨ps', e0, hpc, _, hpo, _⟩ := hpa
  obtain rfl : ps = ps' := by cases ps; cases ps'; simpa using e0
  have hsn := hs.1.1
  refine small_c hs.1 fun b w2 k2 hsm => ?_
  cases b with
  | false => exact bsplit_iff.2 ⟨fun _ => awake_c fun w' k' => hk _ (k2.trans k'), fun e => (by cases e)⟩
  | true =>
  obtain ⟨hlen, hlp⟩ := hsm rfl
  refine bsplit_iff.2 ⟨fun e => (by cases e), fun _ => bsplit_decide.2 ⟨fun _ => awake_c fun w' k' => hk _ (k2.trans k'), fun hn1 => ?_⟩⟩
  refine puts_size (putsOn_le (keep_le k2) hpo) (by omega) fun r w8 k8 r0 r1 hsz => ?_
  have k28 := k2.trans k8
  refine bsplit_decide.2 ⟨fun _ => awake_c fun w' k' => hk _ (k28.trans k'), fun h5 => ?_⟩
  obtain ⟨hpl, _⟩ := hsz (by omega)
  by_cases hg : n < 1 ∨ 1048576 < n ∨ last < 0 ∨ 1099511627776 < last
  · refine mgr_new_bad hg fun w12 k12 => ref_new_bad hg fun w14 k14 => ?_
    exact bsplit_iff.2 ⟨fun e => (by simp at e), fun _ => bsplit_iff.2 ⟨fun e => (by simp at e), fun _ => bsplit_iff.2 ⟨fun _ => awake_c fun w' k' => hk _ (((k28.trans k12).trans k14).trans k'), fun e => (by cases e)⟩⟩⟩
  have h0 := pool_new (R := 1) (w0 := w) (w := w8) ((k28.sat (sat_whole w)).eq (mul_one' _).symm)
  have hF0 : Mono fun h => le (hp w) h := fun h g hl hh b o hb => hl b o (hh b o hb)
  refine mgr_new h0 (by omega) (by omega) fun p w12 h12 => ?_
  have h13 : St [pool fun h => le (hp w) h, mgrA (some ⟨p, 0, none⟩) (Mgr.new n last) * 1] w12 := St.of2 (h12.eq (by ac_rfl))
  refine ref_new hF0 h13 (by omega) (by omega) fun px w14 h14 => ?_
  refine bsplit_iff.2 ⟨fun e => (by simp at e), fun _ => bsplit_iff.2 ⟨fun e => (by simp at e), fun _ => bsplit_iff.2 ⟨fun e => (by cases e), fun _ => ?_⟩⟩⟩
  have ok0 : MgrOk 0 (Mgr.new n last) := mgrOk_new (by omega) (by omega)
  have wf0 : Wf (Mgr.new n last).queue (Mgr.new n last) := wf_new (by omega)
  obtain ⟨Z, g1, g2, g3⟩ := h14.frame
  refine ok_load g1 ok0 (by omega) (fun w' hw' => putsOn_le (g2 w' hw') hpo) (by omega) fun w18 ok18 h18 => ?_
  refine ref_load (g3 _ _ h18) wf0 ok0 (by omega) (kputs_of (fun _ h => h) hpo hpc) (by omega) fun F1 w20 hf1 h20 => ?_
  refine bsplit_iff.2 ⟨fun e => (by simp at e), fun _ => ?_⟩
  have wf1 : Wf ((Mgr.new n last).load pl).1.queue ((Mgr.new n last).load pl).1 := by
    have := wf_load wf0 pl
    have e : ((Mgr.new n last).load pl).1.queue = (Mgr.new n last).queue := by
      unfold Mgr.load; repeat' split
      all_goals rfl
    rw [e]; exact this
  refine loop_i (fun (x : Bool × Int) w' => ∃ (i : Nat) (M : Mgr) (F : Heap → Prop), x.2 = i ∧ i ≤ l.length ∧ (∀ h, F h → le (hp w) h) ∧ MgrOk (1 + i) M ∧ Wf M.queue M ∧ Ref px M F (mgrA (some ⟨p, 0, none⟩) M * 1) w') (fun x _ => (l.length - x.2).toNat) ⟨0, _, F1, rfl, by omega, hf1, ok18, wf1, h20⟩ ?_
  clear ok18 wf1 h20 h18 g1 g2 g3 hf1 h14 h13 h12 ok0 wf0
  rintro ⟨y, x⟩ w22 ⟨i, M, F, hx, hi, hF, ok, wf, h⟩
  simp only at hx; subst hx
  have kw : Keep w w22 := keep_of_le (hF _ h.fact)
  dsimp only
  rw [hsn]
  refine bsplit_decide.2 ⟨fun hlt => ?_, fun hge => ?_⟩
  · have hi' : i < l.length := by omega
    obtain ⟨ad, d, ha, hc0, hd, hdc⟩ := hs.1.2 i hi'
    have hc : ∀ {w' : World}, Keep w w' → ∀ j, j < 6 → w'.cell? ((ad.add (i * 6)).add j) = (stpCells l[i] d)[j]? := fun {w'} k j hj => by
      have h1 := hc0 j hj
      have hlt : j < (stpCells l[i] d).length := hj
      rw [List.getElem?_eq_getElem hlt] at h1 ⊢
      exact cellH_le (keep_le k) h1
    have hdl := hlp _ (List.getElem_mem hi')
    have e1 : IntKind.i64.wrap ((i : Int) + 1) = ((i + 1 : Nat) : Int) := by rw [wrap_of (by omega) (by omega)]; omega
    have ht0 := hc kw 0 (by omega)
    rw [add0] at ht0
    generalize l[i] = t at hc hd hdl ht0
    rw [e1]
    refine ⟨by omega, by omega, onP_i ha ⟨(t.kind, t.h, t.e.first, t.e.len, d, t.n), ⟨ht0, hc kw 1 (by omega), hc kw 2 (by omega), hc kw 3 (by omega), hc kw 4 (by omega), hc kw 5 (by omega)⟩, ?_⟩⟩
    refine does_c h wf ok (by omega) (kputs_of hF hd hdc) (by omega) fun F' w27 hf' ok' h' => bsplit_iff.2 ⟨fun e => (by cases e), fun _ => ?_⟩
    have hF' : ∀ h, F' h → le (hp w) h := fun h hh => hF h (hf' h hh)
    refine ⟨by omega, by omega, onP_i ha ⟨t.h, hc (keep_of_le (hF' _ h'.fact)) 1 (by omega), ?_⟩⟩
    refine same_c h' (wf_stp wf t) ok' (by omega) fun w31 h31 => bsplit_iff.2 ⟨fun e => (by cases e), fun _ => ?_⟩
    exact ⟨⟨i + 1, _, F', rfl, by omega, hF', by have : 1 + (i + 1) = 1 + i + 1 := by omega
                                                 rw [this]; exact ok', wf_stp wf t, h31⟩, by omega⟩
  · refine loop_i (fun (x : Bool × Int) w' => ∃ j : Nat, x.2 = (j : Int) + 1 ∧ j ≤ M.all.length ∧ Ref px M F (mgrA (some ⟨p, 0, none⟩) M * 1) w') (fun x _ => (M.all.length + 1 - x.2).toNat) ⟨0, rfl, by omega, h⟩ ?_
    clear h kw
    rintro ⟨y2, x⟩ w33 ⟨j, hx, hj, h⟩
    simp only at hx; subst hx
    dsimp only
    obtain ⟨hFm, bm, ts, sh, st, sq, qh, sv, xs, hf, h1⟩ := id h
    have hts := st_len h1 3 rfl
    rw [List.length_map] at hts
    have hal : M.all.length = xs.length := by rw [hf.all, idxF_length, List.length_map]
    have hxl := xs_le (N := 1 + i) wf ok (by omega) hf.all
    rw [onP_some]
    refine ⟨ts, st_c1 h1 1 rfl rfl, ?_⟩
    refine bsplit_decide.2 ⟨fun hlt2 => ?_, fun hge2 => ?_⟩
    · obtain ⟨Z, g1, g2, g3⟩ := h.frame
      obtain ⟨⟨hi1, hi2⟩, hi3, hi4⟩ := hist_in ok (by omega) ((j : Int) + 1)
      refine ok_history g1 ok (by omega) fun s1 t1 w38 h38 => ?_
      have h39 : Ref px M F (readsA s1 (Mgr.hist M ((j : Int) + 1)).2.2.2.1 * (putsA t1 (Mgr.hist M ((j : Int) + 1)).2.2.2.2) * (mgrA (some ⟨p, 0, none⟩) M * 1)) w38 := by
        have h40 := Sat.frame (A := readsA s1 (Mgr.hist M ((j : Int) + 1)).2.2.2.1 * (putsA t1 (Mgr.hist M ((j : Int) + 1)).2.2.2.2)) (h38.eq (mul_assoc' _ _ _).symm) g1
        exact (g3 _ _ (h40.eq (mul_assoc' _ _ _).symm)).eq (mul_assoc' _ _ _)
      refine ref_history h39 wf ok (by omega) fun s2 t2 w40 h40 hr2 kp2 => ?_
      have hl := h40.left
      refine samehist_c (readsA_on hl.left) hr2 (putsA_on hl.right) (kp2.on h40.fact) ⟨hi1, hi2⟩ ⟨hi3, hi4⟩ fun w42 k42 => bsplit_iff.2 ⟨fun e => (by cases e), fun _ => ?_⟩
      have e1 : IntKind.i64.wrap ((j : Int) + 1 + 1) = ((j + 1 : Nat) : Int) + 1 := by rw [wrap_of (by omega) (by omega)]; omega
      exact ⟨⟨j + 1, e1, by omega, h40.drop.keep k42⟩, by rw [e1]; omega⟩
    · rw [withW_iff]
      replace h1 := h1.drew
      generalize w33.drew = w44 at h1 ⊢
      refine ⟨fun w' => w'.cell? ⟨px, 0, none⟩ = some (.pointer (some ⟨bm, 0, none⟩)), st_c0 h1 1 rfl rfl, ?_⟩
      rw [onP_some]
      refine ⟨_, fun _ h => h, ?_⟩
      have g1 : Sat (mgrA (some ⟨p, 0, none⟩) M * bigS [pool F, mgO px bm ts sh st sq qh M, mpO bm sv M, tsO ts xs, Sl.all xs (trR bm)]) w44 := h1.to (by simp only [bigS, List.foldr, mul_one']; ac_rfl)
      refine ok_dump g1 ok (by omega) fun s1 w49 h49 => ?_
      have h50 := Sat.frame h49 g1
      have h51 : St [pool F, mgO px bm ts sh st sq qh M, mpO bm sv M, tsO ts xs, Sl.all xs (trR bm), mgrA (some ⟨p, 0, none⟩) M, putsA s1 M.m.dump] w49 := h50.eq (by simp only [bigS, List.foldr, mul_one']; ac_rfl)
      refine ⟨st_c0 h51 1 rfl rfl, ?_⟩
      obtain ⟨B, I, hB⟩ := ok
      have hvl := flatV_le wf.vo I.vers (by omega)
      refine rmap_dump hFm h51 1 rfl hf.vers (by omega) fun F' s2 w51 f1 f2 kp h52 => ?_
      rw [dump_eq wf.vo fun q hq => (I.vers.2.2 q hq).2.1] at kp
      refine ⟨st_c0 h52 1 rfl rfl, ?_⟩
      refine sameputs_c (putsA_on (h52.take 6 rfl).left) (kp.on (st_pool f1 h52 0 rfl)) ?_ fun b w53 k53 hb => ?_
      · unfold XMap.dump
        rw [List.length_map, (sortI_perm _).length_eq, List.length_map]
        have := I.vers.2.1
        have : B * 2 ^ 13 ≤ 2 ^ 11 * 2 ^ 13 := Nat.mul_le_mul_right _ (by omega)
        omega
      · obtain rfl : b = true := hb.2 rfl
        refine ⟨st_c0 (h52.keep k53) 1 rfl rfl, bsplit_iff.2 ⟨fun _ => awake_c fun w55 k55 => ?_, fun e => (by cases e)⟩⟩
        exact ⟨st_c0 ((h52.keep k53).keep k55) 1 rfl rfl, hk _ ((keep_of_le (hF _ (f2 _ (st_pool f1 h52 0 rfl)))).trans (k53.trans k55))⟩
theorem plays_row (w : World) (n last : Int) (ps : SV) (pl : List Put) (hp' : PutsArg w [.slice ps.a ps.n ps.c] pl) (s : SV) (l : List Stp) (hl : StepsArg w s l) : Calls Tryz.prog 16 #[.int .i64 n, .int .i64 last, .slice ps.a ps.n ps.c, .slice s.a s.n s.c] w fun r w' => r = .returned (.bool true) ∧ RowKit.Below w.heap.size w w' :=
  row_of (plays_c hp' hl fun _ k => ⟨rfl, k⟩)
end Go.Proofs.YtbolgpjcmchfoaaGreat
