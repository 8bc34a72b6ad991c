/- The law TxnReplay, walked. -/
import Derived.Test.YtbolgpjcmchfoaaGreatUy
namespace Go.Proofs.YtbolgpjcmchfoaaGreat
open Go Go.Vc Go.Sl Go.Mo
theorem replays_c {s : SV} {l : List Stp} {w : World} {K : Bool → World → Prop} (hs : StepsArg w s l) (hk : ∀ w', Keep w w' → K true w') : c_scarplaw23_TxnReplay s w K := by
  refine scarplaw23_TxnReplay_go ?_
  unfold f_scarplaw23_TxnReplay
  have hsn := hs.1.1
  refine small_c hs.1 fun b w3 k3 hsm => ?_
  cases b with
  | false => exact bsplit_iff.2 ⟨fun _ => awake_c fun w' k' => hk _ (k3.trans k'), fun e => (by cases e)⟩
  | true =>
  obtain ⟨hlen, hlp⟩ := hsm rfl
  refine bsplit_iff.2 ⟨fun e => (by cases e), fun _ => ?_⟩
  have h0 := pool_new (R := 1) (w0 := w) ((k3.sat (sat_whole w)).eq (mul_one' _).symm)
  have hF0 : Mono fun h => le (hp w) h := fun h g hl hh b o hb => hl b o (hh b o hb)
  refine mgr_new (n := 20) (last := 0) h0 (by omega) (by omega) fun p w7 h7 => ?_
  have h8 : St [pool fun h => le (hp w) h, mgrA (some ⟨p, 0, none⟩) (Mgr.new 20 0) * 1] w7 := St.of2 (h7.eq (by ac_rfl))
  refine ref_new hF0 h8 (by omega) (by omega) fun px w9 h9 => ?_
  refine bsplit_iff.2 ⟨fun e => (by simp at e), fun _ => bsplit_iff.2 ⟨fun e => (by cases e), fun _ => ?_⟩⟩
  refine loop_i (fun (x : Bool × Int × Int) w' => ∃ (i n : Nat) (M : Mgr) (F : Heap → Prop), x.2.2 = i ∧ x.2.1 = n ∧ n ≤ i ∧ i ≤ l.length ∧ (∀ h, F h → le (hp w) h) ∧ MgrOk i M ∧ Wf M.queue M ∧ Rep M ∧ M.book.last ≤ n ∧ Ref px M F (mgrA (some ⟨p, 0, none⟩) M * 1) w') (fun x _ => (l.length - x.2.2).toNat)
    ⟨0, 0, _, _, rfl, rfl, Nat.le_refl _, by omega, fun _ h => h, mgrOk_new (by omega) (by omega), wf_new (by omega), rep_new, by simp [Mgr.new], h9⟩ ?_
  clear h9 h8 h7 h0
  rintro ⟨y, x, x'⟩ w11 ⟨i, n, M, F, hx', hx, hni, hi, hF, ok, wf, rep, hbl, h⟩
  simp only at hx hx'; subst hx; subst hx'
  have kw : Keep w w11 := keep_of_le (hF _ h.fact)
  dsimp only
  rw [hsn]
  refine bsplit_decide.2 ⟨fun hlt => ?_, fun hge => ?_⟩
  · have hi' : i < l.length := by omega
    obtain ⟨ad, d, ha, hc0, hd, hdc⟩ := hs.1.2 i hi'
    have hc : ∀ {w' : World}, Keep w w' → ∀ j, j < 6 → w'.cell? ((ad.add (i * 6)).add j) = (stpCells l[i] d)[j]? := fun {w'} k j hj => by
      have h1 := hc0 j hj
      have hlt : j < (stpCells l[i] d).length := hj
      rw [List.getElem?_eq_getElem hlt] at h1 ⊢
      exact cellH_le (keep_le k) h1
    have hdl := hlp _ (List.getElem_mem hi')
    have e1 : IntKind.i64.wrap ((i : Int) + 1) = ((i + 1 : Nat) : Int) := by rw [wrap_of (by omega) (by omega)]; omega
    have e2 : IntKind.i64.wrap ((n : Int) + 1) = ((n + 1 : Nat) : Int) := by rw [wrap_of (by omega) (by omega)]; omega
    have ht0 : ∀ {w' : World}, Keep w w' → w'.cell? (ad.add (i * 6)) = (stpCells l[i] d)[0]? := fun k => by
      have := hc k 0 (by omega)
      rwa [add0] at this
    generalize l[i] = t at hc hd hdl ht0
    rw [e1, e2]
    refine ⟨by omega, by omega, onP_i ha ⟨(t.kind, t.h, t.e.first, t.e.len, d, t.n), ⟨ht0 kw, hc kw 1 (by omega), hc kw 2 (by omega), hc kw 3 (by omega), hc kw 4 (by omega), hc kw 5 (by omega)⟩, ?_⟩⟩
    refine does_c h wf ok (by omega) (kputs_of hF hd hdc) (by omega) fun F' w16 hf' ok' h' => bsplit_iff.2 ⟨fun e => (by cases e), fun _ => ?_⟩
    have hF' : ∀ h, F' h → le (hp w) h := fun h hh => hF h (hf' h hh)
    refine ⟨by omega, by omega, onP_i ha ⟨t.kind, ht0 (keep_of_le (hF' _ h'.fact)), ?_⟩⟩
    have hsl := stp_last M t
    refine bsplit_decide.2 ⟨fun q => ?_, fun q => ?_⟩
    · rw [withI_iff, withI_iff]
      rw [if_pos q] at hsl
      exact ⟨⟨i + 1, n + 1, _, F', rfl, rfl, by omega, by omega, hF', ok', wf_stp wf t, rep_stp rep wf ok t, by omega, h'⟩, by omega⟩
    · rw [withI_iff]
      rw [if_neg q] at hsl
      exact ⟨⟨i + 1, n, _, F', rfl, rfl, by omega, by omega, hF', ok', wf_stp wf t, rep_stp rep wf ok t, by omega, h'⟩, by omega⟩
  obtain ⟨hFm, bm, ts, sh, st, sq, qh, sv, xs0, hf0, h1⟩ := id h
  have h2 : St [pool F, mgrA (some ⟨p, 0, none⟩) M, ownS 7 ⟨none, 0, 0⟩ []] w11 := by
    have h3 : St [pool F, mgrA (some ⟨p, 0, none⟩) M * 1] w11 := (((h1.cut 1 (by simp)).cut 1 (by simp)).cut 1 (by simp)).cut 1 (by simp)
    have h4 := st_nilF 7 h3
    exact h4.to (by simp only [bigS, List.foldr, mul_one']; ac_rfl)
  clear h1 hf0 xs0
  refine loop_i (fun (x : SV × Int) w' => ∃ (j : Nat) (F : Heap → Prop) (xs : List HX), x.2 = (j : Int) + 1 ∧ j ≤ n ∧ Mono F ∧ (∀ h, F h → le (hp w) h) ∧ Hist M j xs ∧ (∀ y ∈ xs, KPuts F y.ws y.ps) ∧
      St [pool F, mgrA (some ⟨p, 0, none⟩) M, ownS 7 x.1 (xs.flatMap histC)] w') (fun x _ => (n + 1 - x.2).toNat)
    ⟨0, F, [], rfl, by omega, hFm, hF, ⟨rfl, fun k hk => by simp at hk⟩, fun y hy => by simp at hy, h2⟩ ?_
  clear h2 h hF hFm kw
  rintro ⟨hsv, x⟩ w22 ⟨j, F, xs, hx, hj, hFm, hF, hist, hkp, h⟩
  simp only at hx h; subst hx
  dsimp only
  have hwn := st_len h 2 rfl
  rw [flat_len (sz := 7) (fun _ => rfl), hist.len] at hwn
  refine bsplit_decide.2 ⟨fun hle => ?_, fun hgt => ?_⟩
  · refine ok_history (i := (j : Int) + 1) (h.take 1 rfl) ok (by omega) fun s1 t1 w25 h25 => ?_
    have h26 := Sat.frame (A := readsA s1 (Mgr.hist M ((j : Int) + 1)).2.2.2.1 * (putsA t1 (Mgr.hist M ((j : Int) + 1)).2.2.2.2)) (h25.eq (mul_assoc' _ _ _).symm) (h.take 1 rfl)
    have h27 : Sat (readsA s1 (Mgr.hist M ((j : Int) + 1)).2.2.2.1 * (putsA t1 (Mgr.hist M ((j : Int) + 1)).2.2.2.2 * (pool F * (mgrA (some ⟨p, 0, none⟩) M * ownS 7 hsv (xs.flatMap histC))))) w25 := h26.eq (by simp only [bigS, List.foldr, List.eraseIdx, mul_one']; ac_rfl)
    obtain ⟨F', f1, f2, f3, h28⟩ := freezeP hFm h27.right
    have h29 : St [pool F', mgrA (some ⟨p, 0, none⟩) M, ownS 7 hsv (xs.flatMap histC)] w25 := St.of3 h28
    refine st_newF (vs := [.int .i64 (Mgr.hist M ((j : Int) + 1)).1, .int .i64 (Mgr.hist M ((j : Int) + 1)).2.1, .int .i64 (Mgr.hist M ((j : Int) + 1)).2.2.1, .int .i64 0, .int .i64 0, slv s1, slv t1]) h29 fun w26 h30 => ?_
    refine st_push h30 3 rfl 0 rfl rfl rfl (by omega) (by omega) rfl fun s2 w28 hs2 h31 => ?_
    have e1 : IntKind.i64.wrap ((j : Int) + 1 + 1) = ((j + 1 : Nat) : Int) + 1 := by rw [wrap_of (by omega) (by omega)]; omega
    rw [e1]
    refine ⟨⟨j + 1, F', xs ++ [⟨(Mgr.hist M ((j : Int) + 1)).1, (Mgr.hist M ((j : Int) + 1)).2.1, (Mgr.hist M ((j : Int) + 1)).2.2.1, s1, t1, (Mgr.hist M ((j : Int) + 1)).2.2.2.2⟩], rfl, by omega, f1, fun h hh => hF h (f2 h hh), ⟨by simp [hist.len], fun k hk => ?_⟩, fun y hy => ?_, ?_⟩, by omega⟩
    · by_cases hk' : k < xs.length
      · rw [List.getElem_append_left hk']; exact hist.h k hk'
      · have hxl := hist.len
        have : k = xs.length := by simp at hk; omega
        subst this
        have e : (xs ++ [(⟨(Mgr.hist M ((j : Int) + 1)).1, (Mgr.hist M ((j : Int) + 1)).2.1, (Mgr.hist M ((j : Int) + 1)).2.2.1, s1, t1, (Mgr.hist M ((j : Int) + 1)).2.2.2.2⟩ : HX)])[xs.length] = ⟨(Mgr.hist M ((j : Int) + 1)).1, (Mgr.hist M ((j : Int) + 1)).2.1, (Mgr.hist M ((j : Int) + 1)).2.2.1, s1, t1, (Mgr.hist M ((j : Int) + 1)).2.2.2.2⟩ := by simp
        rw [e, hxl]
        exact ⟨rfl, rfl, rfl, f3.n⟩
    · rcases List.mem_append.1 hy with hy | hy
      · exact (hkp y hy).more f2
      · simp only [List.mem_singleton] at hy; subst hy; exact f3
    · have h32 := h31.cut 0 (by simp)
      rw [List.flatMap_append]
      exact h32
  obtain rfl : j = n := by omega
  obtain ⟨F1, f1, f2, hA, h2⟩ := st_freeze hFm h 1 rfl
  have h3 : St [pool F1, mgrA (some ⟨p, 0, none⟩) M] w22 := h2
  refine replay_c f1 hA (fun y hy => (hkp y hy).more f2) (ps_runOk rep ok wf hist) (by rw [hist.len]; omega) h3 fun o pr F2 w30 ho hs2 h30 => ?_
  refine bsplit_iff.2 ⟨fun e => (by simp at e), fun _ => ?_⟩
  have heq := replay_eq rep ok wf hist hbl ho
  have dok := dump_runOk rep ok wf.vo
  obtain ⟨hF2, sr, dr, hdr, hknr, h31⟩ := h30
  refine new20_c (R := MO pr sr * (MR sr dr * mgrA (some ⟨p, 0, none⟩) M)) hF2 (h31.to (by simp only [bigS, List.foldr, mul_one'])) fun py w32 h32 => ?_
  obtain ⟨_, sy, dy, hdy, hkny, h33⟩ := h32
  have g1 : Sat (mgrA (some ⟨p, 0, none⟩) M * (pool F2 * (MO py sy * (MR sy dy * (MO pr sr * MR sr dr))))) w32 := h33.to (by simp only [bigS, List.foldr, mul_one']; ac_rfl)
  refine ok_dump g1 ok (by omega) fun s33 w34 h34 => ?_
  have h35 := Sat.frame h34 g1
  obtain ⟨F3, m1, m2, kp3, h36⟩ := freezeP (R := mgrA (some ⟨p, 0, none⟩) M * (MO py sy * (MR sy dy * (MO pr sr * MR sr dr)))) hF2 (h35.eq (by ac_rfl))
  have h37 : MM py F3 (List.replicate 20 []) (MO pr sr * (MR sr dr * mgrA (some ⟨p, 0, none⟩) M)) w34 := ⟨m1, sy, dy, hdy, fun x hx h hh => hkny x hx h (m2 h hh), h36.eq (by simp only [bigS, List.foldr, mul_one']; ac_rfl)⟩
  have hdl : M.m.dump.length ≤ 2 ^ 40 := by
    unfold XMap.dump
    rw [List.length_map, sortI_length, List.length_map]
    obtain ⟨B, I, hB⟩ := id ok
    have := I.vers.2.1
    have : B * 2 ^ 13 ≤ 2 ^ 11 * 2 ^ 13 := Nat.mul_le_mul_right _ (by omega)
    omega
  refine run20_c h37 kp3 (by rw [List.length_replicate]; exact dok) hdl fun F4 w36 hs4 h38 => ?_
  have hlen : ∀ d ∈ runL (List.replicate 20 []) M.m.dump, d.length ≤ 2 ^ 60 := fun d hd => by
    have := runL_lens (L := List.replicate 20 []) dok.len (fun d hd => by rw [List.eq_of_mem_replicate hd]; simp) d hd
    omega
  refine all20_c h38 (by rw [runL_length, List.length_replicate]; omega) hlen fun F5 s37 w38 hs5 kp5 h39 => ?_
  obtain ⟨hF5, sy', dy', hdy', hkny', h40⟩ := h39
  have h41 : MM pr F5 (replL xs o) (MO py sy' * (MR sy' dy' * mgrA (some ⟨p, 0, none⟩) M)) w38 := ⟨hF5, sr, dr, hdr, fun x hx h hh => hknr x hx h (m2 h (hs4 h (hs5 h hh))), h40.to (by simp only [bigS, List.foldr, mul_one']; ac_rfl)⟩
  refine all20_c h41 (by rw [replL_length]; omega) (by rw [heq]; exact hlen) fun F6 s39 w40 hs6 kp6 h42 => ?_
  obtain ⟨hF6, _, _, _, _, h43⟩ := h42
  have hf6 := st_pool hF6 h43 0 rfl
  refine sameputs_c ((kp5.more hs6).on hf6) (kp6.on hf6) ?_ fun b w42 k42 hb => ?_
  · have := allM_length (runL (List.replicate 20 []) M.m.dump) 0
    rw [runL_length, List.length_replicate] at this; omega
  · obtain rfl : b = true := hb.2 (by rw [heq])
    refine bsplit_iff.2 ⟨fun _ => awake_c fun w44 k44 => ?_, fun e => (by cases e)⟩
    exact hk _ ((keep_of_le (hF _ (f2 _ (hs2 _ (m2 _ (hs4 _ (hs5 _ (hs6 _ hf6)))))))).trans (k42.trans k44))
theorem replays_row (w : World) (s : SV) (l : List Stp) (hl : StepsArg w s l) : Calls Tryz.prog 15 #[.slice s.a s.n s.c] w fun r w' => r = .returned (.bool true) ∧ RowKit.Below w.heap.size w w' :=
  row_of (replays_c hl fun _ k => ⟨rfl, k⟩)
end Go.Proofs.YtbolgpjcmchfoaaGreat
