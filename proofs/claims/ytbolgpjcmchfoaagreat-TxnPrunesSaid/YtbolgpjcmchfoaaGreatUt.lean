/- The law TxnPrunes: pruning changes nothing that anybody reads. -/
import Derived.Test.YtbolgpjcmchfoaaGreatUs
import Derived.Test.YtbolgpjcmchfoaaGreatLa
namespace Go.Proofs.YtbolgpjcmchfoaaGreat
open Go Go.Vc Go.Sl Go.Mo
theorem ref_nf {px : Nat} {M : Mgr} {F : Heap → Prop} {R : HP} {w : World} (h : Ref px M F R w) {k : Int} {T : Trn} (hT : lkp M.all k = some T) : NF T.view.set.l := by
  obtain ⟨hF, bm, ts, sh, st, sq, qh, sv, xs, hf, h1⟩ := h
  obtain ⟨j, hj, _, rfl⟩ := at_of hf.all hT
  exact (hf.tr _ (List.getElem_mem hj)).nf
theorem rdAt_prune {e : Ext} {N n : Nat} {M Mn : Mgr} (ha : After e M n Mn) (ok : MgrOk N M) (wf : Wf M.queue M) (nf : ∀ k T, lkp M.all k = some T → NF T.view.set.l) {k : Int} (hk : 1 ≤ k ∧ k ≤ n) : rdAt Mn.prune.1 e k = rdAt M e k := by
  have h1 : Mn.prune.1.m = (M.m.prune (M.book.low M.last)).1 := by
    show (Mn.m.prune (Mn.book.low Mn.last)).1 = _
    rw [ha.m, ha.book, ha.last]
  have h2 : Mn.prune.1.all = Mn.all := rfl
  unfold rdAt
  rw [h1, h2, ha.all k, if_pos hk]
  cases hT : lkp M.all k with
  | none => rfl
  | some T =>
    simp only [Option.map_some]
    refine rdB_again (nf k T hT) fun hs => ?_
    obtain ⟨B, I, _⟩ := ok
    rw [(I.trn hT).vat]
    have := (wf.tk k T.at_).2 ⟨T, hT, .inl hs, rfl⟩
    exact (foldl_min_le M.book.times M.last).1.2 _ (lkp_mem this)
theorem prunes_c {s : SV} {l : List Stp} {e : Ext} {w : World} {K : Bool → World → Prop} (hs : StepsArg w s l) (hk : ∀ w', Keep w w' → K true w') : c_scarplaw23_TxnPrunes s e.first e.len w K := by
  refine scarplaw23_TxnPrunes_go ?_
  unfold f_scarplaw23_TxnPrunes
  have hsn := hs.1.1
  have h1 : Sat (objA (some ⟨w.heap.size, 0, none⟩) [.int .i64 e.first, .int .i64 e.len] * whole w) (w.alloc (.cells [.int .i64 e.first, .int .i64 e.len].toArray 56)) := objA_new (sat_whole w)
  have k1 := Keep.alloc w (.cells [.int .i64 e.first, .int .i64 e.len].toArray 56)
  rw [withW_iff]
  change Keep w (w.alloc (.cells #[.int .i64 e.first, .int .i64 e.len] 56)) at k1
  change Sat _ (w.alloc (.cells #[.int .i64 e.first, .int .i64 e.len] 56)) at h1
  generalize w.alloc (.cells #[.int .i64 e.first, .int .i64 e.len] 56) = w1 at h1 k1 ⊢
  generalize w.heap.size = eb at h1 ⊢
  refine small_c (stepsOn_le (keep_le k1) hs.1) fun b w3 k3 hsm => ?_
  have k13 := k1.trans k3
  cases b with
  | false => exact bsplit_iff.2 ⟨fun _ => awake_c fun w' k' => hk _ (k13.trans k'), fun e => (by cases e)⟩
  | true =>
  obtain ⟨hlen, hlp⟩ := hsm rfl
  refine bsplit_iff.2 ⟨fun e => (by cases e), fun _ => ?_⟩
  have h0 := pool_new (w0 := w) ((k3.sat h1).eq (mul_comm' _ _))
  have hF0 : Mono fun h => le (hp w) h := fun h g hl hh b o hb => hl b o (hh b o hb)
  refine mgr_new (n := 20) (last := 0) h0 (by omega) (by omega) fun p w7 h7 => ?_
  have h8 : St [pool fun h => le (hp w) h, mgrA (some ⟨p, 0, none⟩) (Mgr.new 20 0) * objA (some ⟨eb, 0, none⟩) [.int .i64 e.first, .int .i64 e.len]] w7 := St.of2 (h7.eq (by ac_rfl))
  refine ref_new hF0 h8 (by omega) (by omega) fun px w9 h9 => ?_
  refine bsplit_iff.2 ⟨fun e => (by simp at e), fun _ => bsplit_iff.2 ⟨fun e => (by cases e), fun _ => ?_⟩⟩
  refine loop_i (fun (x : Bool × Int × Int) w' => ∃ (i n : Nat) (M : Mgr) (F : Heap → Prop), x.2.2 = i ∧ x.2.1 = n ∧ n ≤ i ∧ i ≤ l.length ∧ (∀ h, F h → le (hp w) h) ∧ MgrOk i M ∧ Wf M.queue M ∧ Ref px M F (mgrA (some ⟨p, 0, none⟩) M * objA (some ⟨eb, 0, none⟩) [.int .i64 e.first, .int .i64 e.len]) w') (fun x _ => (l.length - x.2.2).toNat)
    ⟨0, 0, _, _, rfl, rfl, Nat.le_refl _, by omega, fun _ h => h, mgrOk_new (by omega) (by omega), wf_new (by omega), h9⟩ ?_
  clear h9 h8 h7 h0 h1
  rintro ⟨y, x, x'⟩ w11 ⟨i, n, M, F, hx', hx, hni, hi, hF, ok, wf, h⟩
  simp only at hx hx'; subst hx; subst hx'
  have kw : Keep w w11 := keep_of_le (hF _ h.fact)
  dsimp only
  rw [hsn]
  refine bsplit_decide.2 ⟨fun hlt => ?_, fun hge => ?_⟩
  · have hi' : i < l.length := by omega
    obtain ⟨ad, d, ha, hc0, hd, hdc⟩ := hs.1.2 i hi'
    have hc : ∀ {w' : World}, Keep w w' → ∀ j, j < 6 → w'.cell? ((ad.add (i * 6)).add j) = (stpCells l[i] d)[j]? := fun {w'} k j hj => by
      have h1 := hc0 j hj
      have hlt : j < (stpCells l[i] d).length := hj
      rw [List.getElem?_eq_getElem hlt] at h1 ⊢
      exact cellH_le (keep_le k) h1
    have hdl := hlp _ (List.getElem_mem hi')
    have e1 : IntKind.i64.wrap ((i : Int) + 1) = ((i + 1 : Nat) : Int) := by rw [wrap_of (by omega) (by omega)]; omega
    have e2 : IntKind.i64.wrap ((n : Int) + 1) = ((n + 1 : Nat) : Int) := by rw [wrap_of (by omega) (by omega)]; omega
    have ht0 : ∀ {w' : World}, Keep w w' → w'.cell? (ad.add (i * 6)) = (stpCells l[i] d)[0]? := fun k => by
      have := hc k 0 (by omega)
      rwa [add0] at this
    generalize l[i] = t at hc hd hdl ht0
    rw [e1, e2]
    refine ⟨by omega, by omega, onP_i ha ⟨(t.kind, t.h, t.e.first, t.e.len, d, t.n), ⟨ht0 kw, hc kw 1 (by omega), hc kw 2 (by omega), hc kw 3 (by omega), hc kw 4 (by omega), hc kw 5 (by omega)⟩, ?_⟩⟩
    refine does_c h wf ok (by omega) (kputs_of hF hd hdc) (by omega) fun F' w16 hf' ok' h' => bsplit_iff.2 ⟨fun e => (by cases e), fun _ => ?_⟩
    have hF' : ∀ h, F' h → le (hp w) h := fun h hh => hF h (hf' h hh)
    refine ⟨by omega, by omega, onP_i ha ⟨t.kind, ht0 (keep_of_le (hF' _ h'.fact)), ?_⟩⟩
    refine bsplit_decide.2 ⟨fun _ => ?_, fun _ => ?_⟩
    · rw [withI_iff, withI_iff]
      exact ⟨⟨i + 1, n + 1, _, F', rfl, rfl, by omega, by omega, hF', ok', wf_stp wf t, h'⟩, by omega⟩
    · rw [withI_iff]
      exact ⟨⟨i + 1, n, _, F', rfl, rfl, by omega, by omega, hF', ok', wf_stp wf t, h'⟩, by omega⟩
  have nf : ∀ k T, lkp M.all k = some T → NF T.view.set.l := fun k T hT => ref_nf h hT
  obtain ⟨hFm, bm, ts, sh, st, sq, qh, sv, xs0, hf0, h1⟩ := id h
  have h2 : St [pool F, mgrA (some ⟨p, 0, none⟩) M, objA (some ⟨eb, 0, none⟩) [.int .i64 e.first, .int .i64 e.len], ownS 1 ⟨none, 0, 0⟩ []] w11 := by
    have h3 : St [pool F, mgrA (some ⟨p, 0, none⟩) M * objA (some ⟨eb, 0, none⟩) [.int .i64 e.first, .int .i64 e.len]] w11 := (((h1.cut 1 (by simp)).cut 1 (by simp)).cut 1 (by simp)).cut 1 (by simp)
    have h4 := st_nilF 1 h3
    exact h4.to (by simp only [bigS, List.foldr, mul_one']; ac_rfl)
  clear h1 hf0 xs0
  refine loop_i (fun (x : SV × Int) w' => ∃ (j : Nat) (Mj : Mgr) (F : Heap → Prop) (xs : List (SV × List UInt8)), x.2 = (j : Int) + 1 ∧ j ≤ n ∧ Mono F ∧ (∀ h, F h → le (hp w) h) ∧ MgrOk (i + j) Mj ∧ After e M j Mj ∧ (xs.length = j ∧ ∀ k (hk : k < xs.length), (xs[k]).2 = rdAt M e ((k : Int) + 1)) ∧ (∀ y ∈ xs, Known F y) ∧
      St [pool F, mgrA (some ⟨p, 0, none⟩) Mj, objA (some ⟨eb, 0, none⟩) [.int .i64 e.first, .int .i64 e.len], ownS 1 x.1 (xs.map fun y => slv y.1)] w') (fun x _ => (n + 1 - x.2).toNat)
    ⟨0, M, F, [], rfl, by omega, hFm, hF, ok, after_0 e M, ⟨rfl, fun k hk => by simp at hk⟩, fun y hy => by simp at hy, h2⟩ ?_
  clear h2 h hF hFm kw
  rintro ⟨was, x⟩ w23 ⟨j, Mj, F, xs, hx, hj, hFm, hF, okj, aft, ⟨hxl, hxb⟩, hkn, h⟩
  simp only at hx h; subst hx
  dsimp only
  have hwn := st_len h 3 rfl
  rw [List.length_map] at hwn
  refine bsplit_decide.2 ⟨fun hle => ?_, fun hgt => ?_⟩
  · refine ⟨(e.first, e.len), ⟨st_c0 h 2 rfl rfl, st_c1 h 2 rfl rfl⟩, ?_⟩
    obtain ⟨aft', hb⟩ := after_step aft
    refine ok_read (h.take 1 rfl) okj (by omega) fun s1 w27 ok27 h27 => ?_
    rw [hb] at h27
    obtain ⟨F', f1, f2, f3, h28⟩ := freezeB (R := mgrA (some ⟨p, 0, none⟩) (Mj.readE ((j : Int) + 1) e).1 * (objA (some ⟨eb, 0, none⟩) [.int .i64 e.first, .int .i64 e.len] * ownS 1 was (xs.map fun y => slv y.1))) hFm (h27.eq (by simp only [bigS, List.foldr, List.eraseIdx, mul_one']; ac_rfl))
    have h29 : St [pool F', mgrA (some ⟨p, 0, none⟩) (Mj.readE ((j : Int) + 1) e).1, objA (some ⟨eb, 0, none⟩) [.int .i64 e.first, .int .i64 e.len], ownS 1 was (xs.map fun y => slv y.1)] w27 := St.of4 h28
    refine st_newF h29 fun w28 h30 => ?_
    refine st_push h30 4 rfl 0 rfl rfl rfl (by omega) (by omega) rfl fun s2 w30 hs2 h31 => ?_
    have e1 : IntKind.i64.wrap ((j : Int) + 1 + 1) = ((j + 1 : Nat) : Int) + 1 := by rw [wrap_of (by omega) (by omega)]; omega
    rw [e1]
    refine ⟨⟨j + 1, _, F', xs ++ [(s1, rdAt M e ((j : Int) + 1))], rfl, by omega, f1, fun h hh => hF h (f2 h hh), by have : i + (j + 1) = i + j + 1 := by omega
                                                                                                                     rw [this]; exact ok27, aft', ⟨by simp [hxl], fun k hk => ?_⟩, fun y hy => ?_, ?_⟩, by omega⟩
    · by_cases hk' : k < xs.length
      · rw [List.getElem_append_left hk']; exact hxb k hk'
      · have : k = xs.length := by simp at hk; omega
        subst this
        simp [hxl]
    · rcases List.mem_append.1 hy with hy | hy
      · exact fun h hh => hkn y hy h (f2 h hh)
      · simp only [List.mem_singleton] at hy; subst hy; exact f3
    · have h32 := h31.cut 0 (by simp)
      rw [List.map_append]
      exact h32
  obtain rfl : j = n := by omega
  refine ok_dump (h.take 1 rfl) okj (by omega) fun s31 w32 h32 => ?_
  have h33 : St [putsA s31 Mj.m.dump, mgrA (some ⟨p, 0, none⟩) Mj, pool F, objA (some ⟨eb, 0, none⟩) [.int .i64 e.first, .int .i64 e.len], ownS 1 was (xs.map fun y => slv y.1)] w32 := (Sat.frame h32 (h.take 1 rfl)).eq (by simp only [bigS, List.foldr, List.eraseIdx, mul_one'])
  refine ok_versions (h33.take 1 rfl) okj (by omega) fun w34 k34 => ?_
  refine ok_prune ((h33.keep k34).take 1 rfl) okj (by omega) fun w36 ok36 h36 => ?_
  have h37 : St [putsA s31 Mj.m.dump, mgrA (some ⟨p, 0, none⟩) Mj.prune.1, pool F, objA (some ⟨eb, 0, none⟩) [.int .i64 e.first, .int .i64 e.len], ownS 1 was (xs.map fun y => slv y.1)] w36 := St.put h36 rfl
  clear h36 h33 h32 h
  refine loop_i (fun (x : Bool × Int) w' => ∃ (k : Nat) (Mk : Mgr), x.2 = (k : Int) + 1 ∧ k ≤ j ∧ MgrOk (i + j + k) Mk ∧ After e Mj.prune.1 k Mk ∧
      St [putsA s31 Mj.m.dump, mgrA (some ⟨p, 0, none⟩) Mk, pool F, objA (some ⟨eb, 0, none⟩) [.int .i64 e.first, .int .i64 e.len], ownS 1 was (xs.map fun y => slv y.1)] w') (fun x _ => (j + 1 - x.2).toNat)
    ⟨0, _, rfl, by omega, ok36, after_0 e _, h37⟩ ?_
  rintro ⟨y2, x⟩ w38 ⟨k, Mk, hx, hkj, okk, aftk, h⟩
  simp only at hx h; subst hx
  dsimp only
  refine bsplit_decide.2 ⟨fun hle => ?_, fun hgt2 => ?_⟩
  · refine ⟨(e.first, e.len), ⟨st_c0 h 3 rfl rfl, st_c1 h 3 rfl rfl⟩, ?_⟩
    obtain ⟨aft', hb⟩ := after_step aftk
    have hb2 := read_bytes (i := (k : Int) + 1) (e := e) okk
    refine ok_read (h.take 1 rfl) okk (by omega) fun s1 w42 ok42 h42 => ?_
    rw [hb] at h42 hb2
    rw [rdAt_prune aft ok wf nf (by omega)] at h42 hb2
    have h43 : St [byteRow s1 (rdAt M e ((k : Int) + 1)), putsA s31 Mj.m.dump, mgrA (some ⟨p, 0, none⟩) (Mk.readE ((k : Int) + 1) e).1, pool F, objA (some ⟨eb, 0, none⟩) [.int .i64 e.first, .int .i64 e.len], ownS 1 was (xs.map fun y => slv y.1)] w42 := h42.eq (by simp only [bigS, List.foldr, List.eraseIdx, mul_one']; ac_rfl)
    have ew : IntKind.i64.wrap ((k : Int) + 1 - 1) = (k : Int) := by rw [wrap_of (by omega) (by omega)]; omega
    have e1 : IntKind.i64.wrap ((k : Int) + 1 + 1) = ((k + 1 : Nat) : Int) + 1 := by rw [wrap_of (by omega) (by omega)]; omega
    rw [ew, e1]
    have hkl : k < xs.length := by omega
    refine ⟨by omega, by omega, st_own h43 5 rfl (by rw [List.length_map]; omega) fun b hb' hc => ⟨(xs[k]).1, ?_, ?_⟩⟩
    · rw [add_mk]
      refine hc _ _ ?_
      simp only [Int.toNat_natCast, Nat.mul_one, Nat.zero_add]
      rw [List.getElem?_map, List.getElem?_eq_getElem hkl]; rfl
    · refine bytes_c (byteRow_on h43.left) (hkn _ (List.getElem_mem hkl) _ (st_pool hFm h43 3 rfl)) hb2 fun w46 k46 => ?_
      rw [decide_eq_true (hxb k hkl).symm]
      refine bsplit_iff.2 ⟨fun e => (by cases e), fun _ => ?_⟩
      exact ⟨⟨k + 1, _, rfl, by omega, by have : i + j + (k + 1) = i + j + k + 1 := by omega
                                          rw [this]; exact ok42, aft', (h43.keep k46).cut 0 (by simp)⟩, by omega⟩
  obtain rfl : k = j := by omega
  have hm1 : Mj.prune.1.m = (M.m.prune (M.book.low M.last)).1 := by
    show (Mj.m.prune (Mj.book.low Mj.last)).1 = _
    rw [aft.m, aft.book, aft.last]
  have hp1 : Mj.prune.2 = (M.m.prune (M.book.low M.last)).2 := by
    show (Mj.m.prune (Mj.book.low Mj.last)).2 = _
    rw [aft.m, aft.book, aft.last]
  have hp2 : Mk.prune.2 = 0 := by
    show (Mk.m.prune (Mk.book.low Mk.last)).2 = _
    rw [aftk.m, aftk.book, aftk.last, hm1]
    show ((M.m.prune (M.book.low M.last)).1.prune (Mj.book.low Mj.last)).2 = 0
    rw [aft.book, aft.last]
    exact prune_again _ _
  obtain ⟨B, I, hB⟩ := id ok
  have hvl := flatV_le wf.vo I.vers (by omega)
  have hfl := flatV_length wf.vo
  have hpv := prune_versions wf.vo (M.book.low M.last)
  refine ok_versions (h.take 1 rfl) okk (by omega) fun w48 k48 => ?_
  have ev : Mk.m.versions = IntKind.i64.wrap (Mj.m.versions - Mj.prune.2) := by
    rw [aftk.m, hm1, hp1, aft.m, hpv]
    have : (0 : Int) ≤ (M.m.prune (M.book.low M.last)).1.versions := by unfold XMap.versions; omega
    have h0 : (0 : Int) ≤ (M.m.prune (M.book.low M.last)).2 := by unfold XMap.prune; simp only; omega
    rw [wrap_of (by omega) (by omega)]
  refine bsplit_decide.2 ⟨fun _ => ?_, fun hne => absurd ev hne⟩
  refine ok_prune ((h.keep k48).take 1 rfl) okk (by omega) fun w50 ok50 h50 => ?_
  rw [hp2]
  refine bsplit_decide.2 ⟨fun _ => ?_, fun hne => absurd rfl hne⟩
  have h51 : St [putsA s31 Mj.m.dump, mgrA (some ⟨p, 0, none⟩) Mk.prune.1, pool F, objA (some ⟨eb, 0, none⟩) [.int .i64 e.first, .int .i64 e.len], ownS 1 was (xs.map fun y => slv y.1)] w50 := St.put h50 rfl
  refine ok_dump (h51.take 1 rfl) ok50 (by omega) fun s51 w52 h52 => ?_
  have h53 := Sat.frame h52 (h51.take 1 rfl)
  have ed : Mk.prune.1.m.dump = Mj.m.dump := by
    have e1 : Mk.prune.1.m = ((M.m.prune (M.book.low M.last)).1.prune (Mk.book.low Mk.last)).1 := by
      show (Mk.m.prune (Mk.book.low Mk.last)).1 = _
      rw [aftk.m, hm1]
    obtain ⟨B', I', _⟩ := id ok36
    have hv' := I'.vers
    rw [hm1] at hv'
    rw [e1, prune_dump (vok_prune wf.vo _) (fun q hq => (hv'.2.2 q hq).2.1), prune_dump wf.vo (fun q hq => (I.vers.2.2 q hq).2.1), aft.m]
  have h54 : Sat (putsA s31 Mj.m.dump) w52 := (h53.eq (B := putsA s31 Mj.m.dump * (putsA s51 Mk.prune.1.m.dump * bigS [mgrA (some ⟨p, 0, none⟩) Mk.prune.1, pool F, objA (some ⟨eb, 0, none⟩) [.int .i64 e.first, .int .i64 e.len], ownS 1 was (xs.map fun y => slv y.1)])) (by simp only [bigS, List.foldr, List.eraseIdx, mul_one']; ac_rfl)).left
  have h55 : Sat (pool F) w52 := (h53.eq (B := pool F * (putsA s51 Mk.prune.1.m.dump * bigS [mgrA (some ⟨p, 0, none⟩) Mk.prune.1, putsA s31 Mj.m.dump, objA (some ⟨eb, 0, none⟩) [.int .i64 e.first, .int .i64 e.len], ownS 1 was (xs.map fun y => slv y.1)])) (by simp only [bigS, List.foldr, List.eraseIdx, mul_one']; ac_rfl)).left
  refine sameputs_c (putsA_on h53.left) (putsA_on h54) ?_ fun b w54 k54 hb => ?_
  · unfold XMap.dump
    rw [List.length_map, (sortI_perm _).length_eq, List.length_map]
    obtain ⟨B', I', hB'⟩ := id ok50
    have := I'.vers.2.1
    have : B' * 2 ^ 13 ≤ 2 ^ 11 * 2 ^ 13 := Nat.mul_le_mul_right _ (by omega)
    omega
  · obtain rfl : b = true := hb.2 ed
    refine bsplit_iff.2 ⟨fun _ => awake_c fun w56 k56 => ?_, fun e => (by cases e)⟩
    have hle : F (hp w52) := pool_get (R := 1) hFm (h55.eq (mul_one' _).symm)
    exact hk _ ((keep_of_le (hF _ hle)).trans (k54.trans k56))
theorem prunes_row (w : World) (s : SV) (l : List Stp) (hl : StepsArg w s l) (e : Ext) (_he : (-9223372036854775808 ≤ e.first ∧ e.first ≤ 9223372036854775807) ∧ (-9223372036854775808 ≤ e.len ∧ e.len ≤ 9223372036854775807)) : Calls Tryz.prog 14 #[.slice s.a s.n s.c, .agg #[.int .i64 e.first, .int .i64 e.len]] w fun r w' => r = .returned (.bool true) ∧ RowKit.Below w.heap.size w w' :=
  row_of (prunes_c (e := e) hl fun _ k => ⟨rfl, k⟩)
end Go.Proofs.YtbolgpjcmchfoaaGreat
