/- The reference's map takes a transaction in. -/
import Derived.Test.YtbolgpjcmchfoaaGreatUg
namespace Go.Proofs.YtbolgpjcmchfoaaGreat
open Go Go.Vc Go.Sl Go.Mo
theorem mergeV_put {t : Int} {v : Int × Put} {r : List (Int × Put)} {p : Put} {ps : List Put} (h : p.lba < v.1) : mergeV t (v :: r) (p :: ps) = (p.lba, ⟨t, p.data⟩) :: mergeV t (v :: r) ps := by
  simp [mergeV, h]
theorem mergeV_ver {t : Int} {v : Int × Put} {r : List (Int × Put)} {ps : List Put} (h : ∀ p ∈ ps.head?, ¬ p.lba < v.1) : mergeV t (v :: r) ps = v :: mergeV t r ps := by
  cases ps with
  | nil => simp [mergeV]
  | cons p q =>
    have := h p (by simp)
    simp [mergeV, this]
theorem range_of_ends {X : XMap} {l : List Put} (hr : (l.map Put.lba).Pairwise (· < ·)) (hne : l ≠ []) : (∀ p ∈ l, outOf X.blocks p = false) ↔ (inB X (l.headD ⟨0, []⟩).lba = true ∧ inB X (l.getLastD ⟨0, []⟩).lba = true) := by
  have hin : ∀ p : Put, outOf X.blocks p = false ↔ inB X p.lba = true := fun p => by
    simp only [outOf, inB, Bool.or_eq_false_iff, decide_eq_false_iff_not, decide_eq_true_eq]; omega
  simp only [hin]
  constructor
  · intro h
    constructor
    · cases l with
      | nil => exact absurd rfl hne
      | cons p r => exact h p (by simp)
    · rw [List.getLastD_eq_getLast?, List.getLast?_eq_some_getLast hne]
      exact h _ (List.getLast_mem hne)
  · rintro ⟨h1, h2⟩ p hp
    have ha : (l.headD ⟨0, []⟩).lba ≤ p.lba := by
      cases l with
      | nil => exact absurd rfl hne
      | cons q r =>
        rw [List.map_cons, List.pairwise_cons] at hr
        rcases List.mem_cons.1 hp with e | e
        · subst e; exact Int.le_refl _
        · have := hr.1 _ (List.mem_map_of_mem e); simp only [List.headD_cons]; omega
    have hb : p.lba ≤ (l.getLastD ⟨0, []⟩).lba := by
      rw [List.getLastD_eq_getLast?, List.getLast?_eq_some_getLast hne]
      have e := List.dropLast_concat_getLast hne
      rw [← e, List.map_append, List.pairwise_append] at hr
      rw [← e] at hp
      rcases List.mem_append.1 hp with q | q
      · have := hr.2.2 _ (List.mem_map_of_mem q) (l.getLast hne).lba (by simp)
        simp only [Option.getD_some]; omega
      · have : p = l.getLast hne := by simpa using q
        rw [this]; exact Int.le_refl _
    simp only [inB, decide_eq_true_eq] at h1 h2 ⊢
    omega
set_option maxHeartbeats 1000000 in
theorem rmap_apply {b : Nat} {X : XMap} {t : Tx} {sv s : SV} {F : Heap → Prop} {r : List HP} {w : World} {K : Int → World → Prop} (hF : Mono F) (h : St (pool F :: r) w) (i0 : Nat) (hi0 : r[i0]? = some (objA (some ⟨b, 0, none⟩) [.int .i64 X.blocks, slv sv, .int .i64 X.last])) (hv : KVers F sv (flatV X)) (ht : KPuts F s t.puts) (vo : VOk X) (hn : t.puts.length ≤ 2 ^ 20) (hL : (flatV X).length ≤ 2 ^ 36)
    (hk : ∀ F' sv' w', Mono F' → (∀ h, F' h → F h) → KVers F' sv' (flatV (X.apply t).1) → St (pool F' :: r.set i0 (objA (some ⟨b, 0, none⟩) [.int .i64 X.blocks, slv sv', .int .i64 (X.apply t).1.last])) w' → K (X.apply t).2 w') : c_scarpref11_Map_Apply (some ⟨b, 0, none⟩) t.time s w K := by
  refine scarpref11_Map_Apply_go ?_
  unfold f_scarpref11_Map_Apply
  have hsn := ht.n
  have hl : ∀ w', F (hp w') → putsOn (hp w') s t.puts := fun w' hw => ht.on hw
  refine st_newF h fun w1 h1 => ?_
  have fin : ∀ w' c, St (objA (some ⟨w.heap.size, 0, none⟩) [.int .i64 t.time, slv s] :: pool F :: r) w' → X.apply t = (X, c) → K c w' := fun w' c h' q => by
    have := hk F sv w' hF (fun _ h => h) (by rw [q]; exact hv) (by rw [q, set_self hi0]; exact h'.cut 0 (by simp))
    rw [q] at this; exact this
  have c0 : ∀ {w'}, St (objA (some ⟨w.heap.size, 0, none⟩) [.int .i64 t.time, slv s] :: pool F :: r) w' → w'.cell? ⟨w.heap.size, 0, none⟩ = some (.int .i64 t.time) := fun h => st_c0 h 0 rfl rfl
  have c1 : ∀ {w'}, St (objA (some ⟨w.heap.size, 0, none⟩) [.int .i64 t.time, slv s] :: pool F :: r) w' → w'.cell? ((⟨w.heap.size, 0, none⟩ : Addr).add 1) = some (.slice s.a s.n s.c) := fun h => st_c1 h 0 rfl rfl
  refine st_drew h1 fun w2 h2 => ⟨_, c0 h2, ?_⟩
  rw [onP_some]
  refine ⟨_, st_c1 h2 (i0 + 2) (by simpa using hi0) rfl, bsplit_decide.2 ⟨fun q1 => fin _ _ h2 (by unfold XMap.apply; rw [if_pos (.inl q1)]), fun q1 => ⟨_, c0 h2, bsplit_decide.2 ⟨fun q2 => fin _ _ h2 (by unfold XMap.apply; rw [if_pos (.inr q2)]), fun q2 => ⟨s, c1 h2, bsplit_decide.2 ⟨fun q3 => ?_, fun q3 => ?_⟩⟩⟩⟩⟩⟩
  · refine fin _ _ h2 ?_
    unfold XMap.apply
    rw [if_neg (by omega), if_pos]
    unfold riseM
    simp; omega
  have qt : ¬ (t.time ≤ X.last ∨ 1099511627776 < t.time) := by omega
  refine loop_i (fun (x : Int × Int) w' => ∃ i : Nat, x = (0, (i : Int)) ∧ 1 ≤ i ∧ i ≤ t.puts.length ∧ St (objA (some ⟨w.heap.size, 0, none⟩) [.int .i64 t.time, slv s] :: pool F :: r) w' ∧ ((t.puts.take i).map Put.lba).Pairwise (· < ·)) (fun x _ => t.puts.length - x.2.toNat) ⟨1, rfl, by omega, by omega, h2, ?_⟩ ?_
  · cases t.puts with
    | nil => simp
    | cons p r => simp
  rintro x w3 ⟨i, rfl, hi1, hi, h3, hrise⟩
  dsimp only
  refine ⟨s, c1 h3, bsplit_decide.2 ⟨fun hlt => ?_, fun hge => ?_⟩⟩
  · have hlt' : i < t.puts.length := by omega
    have h4 := h3.drew
    rw [withW_iff]
    generalize w3.drew = w4 at h4 ⊢
    have hon := hl _ (st_pool hF h4 1 rfl)
    have ew : IntKind.i64.wrap ((i : Int) - 1) = ((i - 1 : Nat) : Int) := by rw [wrap_of (by omega) (by omega)]; omega
    obtain ⟨ad, d, ha, g1, g2, g3⟩ := hon.2 i hlt'
    obtain ⟨ad', d', ha', g1', g2', g3'⟩ := hon.2 (i - 1) (by omega)
    rw [ew]
    have htk := List.take_succ_eq_append_getElem hlt'
    refine ⟨s, c1 h4, by omega, hlt, onP_i ha ⟨_, g1, s, c1 h4, by omega, by omega, onP_i ha' ⟨_, g1', bsplit_decide.2 ⟨fun q => ?_, fun q => ?_⟩⟩⟩⟩
    · refine fin _ _ h4 ?_
      unfold XMap.apply
      rw [if_neg qt, if_pos]
      unfold riseM
      simp only [decide_eq_false_iff_not]
      rintro ⟨_, hp⟩
      rw [List.pairwise_map, List.pairwise_iff_getElem] at hp
      have := hp (i - 1) i (by omega) hlt' (by omega)
      omega
    · have e1 := inc_of hlt' (by omega)
      refine ⟨⟨i + 1, by rw [e1], by omega, by omega, h4, ?_⟩, by simp only [e1]; omega⟩
      rw [htk, List.map_append, List.pairwise_append]
      refine ⟨hrise, by simp, fun a ha b hb => ?_⟩
      obtain rfl : b = t.puts[i].lba := by simpa using hb
      have hlast : a ≤ t.puts[i - 1].lba := by
        have e : t.puts.take i = t.puts.take (i - 1) ++ [t.puts[i - 1]] := by
          have := List.take_succ_eq_append_getElem (l := t.puts) (i := i - 1) (by omega)
          rwa [show i - 1 + 1 = i from by omega] at this
        rw [e, List.map_append, List.pairwise_append] at hrise
        rw [e, List.map_append] at ha
        rcases List.mem_append.1 ha with p | p
        · have := hrise.2.2 a p t.puts[i - 1].lba (by simp); omega
        · obtain rfl : a = t.puts[i - 1].lba := by simpa using p
          exact Int.le_refl _
      omega
  obtain rfl : i = t.puts.length := by omega
  rw [List.take_length] at hrise
  have hne : t.puts ≠ [] := fun e => by rw [e] at hi1; simp at hi1
  have qr : ¬ riseM t.puts = false := by
    unfold riseM
    simp only [decide_eq_false_iff_not, Decidable.not_not]
    exact ⟨by omega, hrise⟩
  clear hge
  refine loop_i (fun (x : Int × Int) w' => ∃ i : Nat, x = (0, (i : Int)) ∧ i ≤ t.puts.length ∧ St (objA (some ⟨w.heap.size, 0, none⟩) [.int .i64 t.time, slv s] :: pool F :: r) w' ∧ ∀ j (hj : j < t.puts.length), j < i → outOf X.blocks t.puts[j] = false) (fun x _ => t.puts.length - x.2.toNat) ⟨0, rfl, by omega, h3, fun j _ h => by omega⟩ ?_
  rintro x w3 ⟨i, rfl, hi, h3, hall⟩
  dsimp only
  refine ⟨s, c1 h3, bsplit_decide.2 ⟨fun hlt => ?_, fun hge => ?_⟩⟩
  · have hlt' : i < t.puts.length := by omega
    have h4 := h3.drew
    rw [withW_iff]
    generalize w3.drew = w4 at h4 ⊢
    obtain ⟨ad, d, ha, g1, g2, g3⟩ := (hl _ (st_pool hF h4 1 rfl)).2 i hlt'
    have bad : outOf X.blocks t.puts[i] = true → K 2 w4 := fun q => by
      refine fin _ _ h4 ?_
      unfold XMap.apply
      rw [if_neg qt, if_neg qr, if_pos]
      have := mt (range_of_ends (X := X) hrise hne).2 fun hp => by rw [hp _ (List.getElem_mem hlt')] at q; cases q
      by_cases e : inB X (t.puts.headD ⟨0, []⟩).lba = false
      · exact .inl e
      · right
        by_cases e2 : inB X (t.puts.getLastD ⟨0, []⟩).lba = false
        · exact e2
        · exact absurd ⟨by simpa using e, by simpa using e2⟩ this
    refine ⟨s, c1 h4, by omega, hlt, onP_i ha ⟨_, g1, bsplit_decide.2 ⟨fun q => bad (by simp [outOf, q]), fun q => ⟨s, c1 h4, by omega, hlt, onP_i ha ⟨_, g1, ?_⟩⟩⟩⟩⟩
    rw [onP_some]
    refine ⟨_, st_c0 h4 (i0 + 2) (by simpa using hi0) rfl, bsplit_decide.2 ⟨fun q => bad (by simp [outOf, q]), fun q' => ?_⟩⟩
    have e1 := inc_of hlt' (by omega)
    exact ⟨⟨i + 1, by rw [e1], by omega, h4, next_all (p := outOf X.blocks) hlt' hall (by simp only [outOf, Bool.or_eq_false_iff, decide_eq_false_iff_not]; omega)⟩, by simp only [e1]; omega⟩
  obtain rfl : i = t.puts.length := by omega
  have qi : ¬ (inB X (t.puts.headD ⟨0, []⟩).lba = false ∨ inB X (t.puts.getLastD ⟨0, []⟩).lba = false) := by
    have := (range_of_ends (X := X) hrise hne).1 fun p hp => by
      obtain ⟨j, hj, rfl⟩ := List.getElem_of_mem hp
      exact hall j hj hj
    rw [this.1, this.2]; simp
  clear hall hge hi
  refine loop_i (fun (x : Int × Int) w' => ∃ i : Nat, x = (0, (i : Int)) ∧ i ≤ t.puts.length ∧ St (objA (some ⟨w.heap.size, 0, none⟩) [.int .i64 t.time, slv s] :: pool F :: r) w' ∧ ∀ j (hj : j < t.puts.length), j < i → badLen t.puts[j] = false) (fun x _ => t.puts.length - x.2.toNat) ⟨0, rfl, by omega, h3, fun j _ h => by omega⟩ ?_
  rintro x w3 ⟨i, rfl, hi, h3, hall⟩
  dsimp only
  refine ⟨s, c1 h3, bsplit_decide.2 ⟨fun hlt => ?_, fun hge => ?_⟩⟩
  · have hlt' : i < t.puts.length := by omega
    obtain ⟨ad, d, ha, g1, g2, g3⟩ := (hl _ (st_pool hF h3 1 rfl)).2 i hlt'
    have hdn := g3.1
    refine ⟨s, c1 h3, by omega, hlt, onP_i ha ⟨d, g2, bsplit_iff.2 ⟨fun q => ?_, fun q => ?_⟩⟩⟩
    · refine fin _ _ h3 ?_
      unfold XMap.apply
      rw [if_neg qt, if_neg qr, if_neg qi, if_pos (any_hit hlt' ?_)]
      simp only [Bool.not_eq_true', decide_eq_false_iff_not] at q
      simp only [badLen, Bool.not_eq_true', decide_eq_false_iff_not]; omega
    · have e1 := inc_of hlt' (by omega)
      refine ⟨⟨i + 1, by rw [e1], by omega, h3, next_all (p := badLen) hlt' hall ?_⟩, by simp only [e1]; omega⟩
      simp only [Bool.not_eq_false', decide_eq_true_eq] at q
      simp only [badLen, Bool.not_eq_false', decide_eq_true_eq]; omega
  obtain rfl : i = t.puts.length := by omega
  have ql : ¬ t.puts.any badLen = true := by rw [any_done (p := badLen) hall]; simp
  have h40 : ∀ x ∈ t.puts, x.data.length = 40 := fun x hx => by
    obtain ⟨j, hj, rfl⟩ := List.getElem_of_mem hx
    have := hall j hj hj
    simpa [badLen] using this
  clear hall hge hi
  have hap : (X.apply t).2 = 0 ∧ (X.apply t).1.last = t.time := by
    unfold XMap.apply
    rw [if_neg qt, if_neg qr, if_neg qi, if_neg ql]
    exact ⟨rfl, rfl⟩
  have hfl := (flatV_apply vo hap.1).1
  rw [hfl, hap.1, hap.2] at hk
  have hvn := hv.n
  generalize flatV X = L at *
  generalize hM : mergeV t.time L t.puts = M at hk
  obtain ⟨xs, hxs, hrow, hknx⟩ := id ht
  have hxl : xs.length = t.puts.length := by rw [← hxs, List.length_map]
  refine loop_i (fun (x : SV × Int × Int) w' => ∃ i k : Nat, x.2.1 = (k : Int) ∧ x.2.2 = (i : Int) ∧ i ≤ L.length + 1 ∧ k ≤ t.puts.length ∧ (i = L.length + 1 → k = t.puts.length) ∧ ∃ F' : Heap → Prop, Mono F' ∧ (∀ h, F' h → F h) ∧ ∃ ys : List (SV × (Int × Put)), St (ownS 3 x.1 (ys.flatMap verC) :: pool F' :: objA (some ⟨w.heap.size, 0, none⟩) [.int .i64 t.time, slv s] :: r) w' ∧ (∀ y ∈ ys, Known F' (y.1, y.2.2.data)) ∧
    ys.map Prod.snd ++ mergeV t.time (L.drop i) (t.puts.drop k) = M ∧ ys.length ≤ i + k) (fun x _ => L.length + 1 - x.2.2.toNat)
    ⟨0, 0, rfl, rfl, by omega, by omega, fun e => by omega, F, hF, fun _ h => h, [], st_nilF 3 ?_, fun _ h => by simp at h, hM, by simp⟩ ?_
  · exact h3.to (by simp only [big_cons]; ac_rfl)
  rintro ⟨out, kx, ix⟩ w4 ⟨i, k, hkx, hix, hi, hkl, hik, F', f1, f2, ys, h4, hkn, hpm, hyl⟩
  simp only at hkx hix h4; subst hkx hix
  dsimp only
  have cb : ∀ {F' : Heap → Prop} {w' : World} {A : HP}, St (A :: pool F' :: objA (some ⟨w.heap.size, 0, none⟩) [.int .i64 t.time, slv s] :: r) w' → w'.cell? ((⟨b, 0, none⟩ : Addr).add 1) = some (.slice sv.a sv.n sv.c) := fun h => st_c1 h (i0 + 3) (by simpa using hi0) rfl
  have cx0 : ∀ {F' : Heap → Prop} {w' : World} {A : HP}, St (A :: pool F' :: objA (some ⟨w.heap.size, 0, none⟩) [.int .i64 t.time, slv s] :: r) w' → w'.cell? ⟨w.heap.size, 0, none⟩ = some (.int .i64 t.time) := fun h => st_c0 h 2 rfl rfl
  have cx1 : ∀ {F' : Heap → Prop} {w' : World} {A : HP}, St (A :: pool F' :: objA (some ⟨w.heap.size, 0, none⟩) [.int .i64 t.time, slv s] :: r) w' → w'.cell? ((⟨w.heap.size, 0, none⟩ : Addr).add 1) = some (.slice s.a s.n s.c) := fun h => st_c1 h 2 rfl rfl
  have cb4 := cb h4
  rw [onP_some]
  refine ⟨sv, cb4, bsplit_decide.2 ⟨fun hle => ?_, fun hgt => ?_⟩⟩
  · have hle' : i ≤ L.length := by omega
    refine loop_i (fun (x : SV × Int) w' => ∃ k : Nat, x.2 = (k : Int) ∧ k ≤ t.puts.length ∧ ∃ F' : Heap → Prop, Mono F' ∧ (∀ h, F' h → F h) ∧ ∃ ys : List (SV × (Int × Put)), St (ownS 3 x.1 (ys.flatMap verC) :: pool F' :: objA (some ⟨w.heap.size, 0, none⟩) [.int .i64 t.time, slv s] :: r) w' ∧ (∀ y ∈ ys, Known F' (y.1, y.2.2.data)) ∧
      ys.map Prod.snd ++ mergeV t.time (L.drop i) (t.puts.drop k) = M ∧ ys.length ≤ i + k) (fun x _ => t.puts.length - x.2.toNat) ⟨k, rfl, hkl, F', f1, f2, ys, h4, hkn, hpm, hyl⟩ ?_
    clear f1 f2 h4 hkn hpm hyl hik cb4
    rintro ⟨out, kx⟩ w5 ⟨k, hkx, hkl, F', f1, f2, ys, h5, hkn, hpm, hyl⟩
    simp only at hkx h5; subst hkx
    dsimp only
    have h6 := h5.drew
    rw [withW_iff]
    generalize w5.drew = w6 at h6 ⊢
    have cb6 := cb h6
    have hol := st_len h6 0 rfl
    rw [verC_len] at hol
    have hF6 := st_pool f1 h6 1 rfl
    refine ⟨s, cx1 h6, ?_⟩
    have hfF := fun {w' : World} (h : F' (hp w')) => f2 _ h
    -- a version is copied, or all is done
    have part2 : (∀ p ∈ (t.puts.drop k).head?, ∀ hlt : i < L.length, ¬ p.lba < L[i].1) → (i = L.length → k = t.puts.length) → f_scarpref11_Map_Apply_p2 (some ⟨b, 0, none⟩) w6 (out, (k : Int), (i : Int)) (out, (k : Int)) (fun x w' => (∃ i k : Nat, x.2.1 = (k : Int) ∧ x.2.2 = (i : Int) ∧ i ≤ L.length + 1 ∧ k ≤ t.puts.length ∧ (i = L.length + 1 → k = t.puts.length) ∧ ∃ F' : Heap → Prop, Mono F' ∧ (∀ h, F' h → F h) ∧ ∃ ys : List (SV × (Int × Put)), St (ownS 3 x.1 (ys.flatMap verC) :: pool F' :: objA (some ⟨w.heap.size, 0, none⟩) [.int .i64 t.time, slv s] :: r) w' ∧ (∀ y ∈ ys, Known F' (y.1, y.2.2.data)) ∧
        ys.map Prod.snd ++ mergeV t.time (L.drop i) (t.puts.drop k) = M ∧ ys.length ≤ i + k) ∧ L.length + 1 - x.2.2.toNat < L.length + 1 - (i : Int).toNat) := fun hno hend => by
      unfold f_scarpref11_Map_Apply_p2
      dsimp only
      rw [onP_some]
      have e1 : IntKind.i64.wrap ((i : Int) + 1) = ((i + 1 : Nat) : Int) := inc_of (n := L.length + 1) (by omega) (by omega)
      refine ⟨sv, cb6, bsplit_decide.2 ⟨fun hlt => ?_, fun hge => ?_⟩⟩
      · have hlt' : i < L.length := by omega
        obtain ⟨ad, q, ha, g1, g2, g3, g4⟩ := hv.get (hfF hF6) hlt'
        rw [onP_some]
        refine ⟨sv, cb6, by omega, hlt, onP_i ha ⟨(L[i].1, L[i].2.lba, q), ⟨g1, g2, g3⟩, st_newF h6 fun w7 h7 => st_push h7 1 rfl 0 rfl rfl rfl (by omega) (by omega) rfl fun s8 w8 _ h8 => ?_⟩⟩
        rw [withI_iff]
        have h9 := h8.cut 0 (by simp)
        simp only [List.set_cons_succ, List.set_cons_zero, List.eraseIdx_cons_zero] at h9
        rw [verC_snoc] at h9
        refine ⟨⟨i + 1, k, rfl, e1, by omega, hkl, fun e => by omega, F', f1, f2, _, h9, fun y hy => ?_, ?_, by simp; omega⟩, by simp only [e1]; omega⟩
        · rcases List.mem_append.1 hy with e | e
          · exact hkn y e
          · obtain rfl : y = (q, L[i]) := by simpa using e
            exact fun g hg => g4 g (f2 _ hg)
        · rw [← hpm, List.drop_eq_getElem_cons hlt', mergeV_ver fun p hp => hno p hp hlt']
          simp
      · rw [withI_iff]
        refine ⟨⟨i + 1, k, rfl, e1, by omega, hkl, fun _ => hend (by omega), F', f1, f2, ys, h6, hkn, ?_, by omega⟩, by simp only [e1]; omega⟩
        rw [← hpm, List.drop_eq_nil_of_le (by omega : L.length ≤ i), List.drop_eq_nil_of_le (by omega : L.length ≤ i + 1)]
    -- a put is taken in
    have part1 : ∀ hlt : k < t.puts.length, mergeV t.time (L.drop i) (t.puts.drop k) = (t.puts[k].lba, ⟨t.time, t.puts[k].data⟩) :: mergeV t.time (L.drop i) (t.puts.drop (k + 1)) → f_scarpref11_Map_Apply_p1 w6 w (out, (k : Int)) (fun x w' => (∃ k : Nat, x.2 = (k : Int) ∧ k ≤ t.puts.length ∧ ∃ F' : Heap → Prop, Mono F' ∧ (∀ h, F' h → F h) ∧ ∃ ys : List (SV × (Int × Put)), St (ownS 3 x.1 (ys.flatMap verC) :: pool F' :: objA (some ⟨w.heap.size, 0, none⟩) [.int .i64 t.time, slv s] :: r) w' ∧ (∀ y ∈ ys, Known F' (y.1, y.2.2.data)) ∧
        ys.map Prod.snd ++ mergeV t.time (L.drop i) (t.puts.drop k) = M ∧ ys.length ≤ i + k) ∧ t.puts.length - x.2.toNat < t.puts.length - (k : Int).toNat) := fun hlt hmv => by
      unfold f_scarpref11_Map_Apply_p1
      dsimp only
      have hkx : k < xs.length := by omega
      have hxk : t.puts[k] = xs[k].2 := by simp only [← hxs, List.getElem_map]
      obtain ⟨ad, ha, _⟩ := KRow.get hrow (fun _ => rfl) (by omega) (hfF hF6) hkx
      have cell1 : ∀ w' : World, F' (hp w') → w'.cell? (ad.add (k * 2)) = some (.int .i64 t.puts[k].lba) ∧ w'.cell? ((ad.add (k * 2)).add 1) = some (.slice xs[k].1.a xs[k].1.n xs[k].1.c) := fun w' hw' => by
        obtain ⟨ad', e, p, c⟩ := KRow.get hrow (fun _ => rfl) (by omega) (hfF hw') hkx
        rw [ha] at e; cases e
        exact ⟨by rw [hxk]; exact p, c 1 (by omega)⟩
      have hd : Known F (xs[k].1, t.puts[k].data) := by rw [hxk]; exact hknx _ (List.getElem_mem hkx)
      have h40k := h40 _ (List.getElem_mem hlt)
      have hdn : xs[k].1.n = 40 := by rw [(hd _ (hfF hF6)).1]; exact h40k
      generalize xs[k].1 = d at *
      have e1 := inc_of hlt (by omega)
      refine st_drew h6 fun w52 h52 => ⟨fun w' => F' (hp w') ∧ w'.cell? ⟨w.heap.size, 0, none⟩ = some (.int .i64 t.time) ∧ w'.cell? ((⟨w.heap.size, 0, none⟩ : Addr).add 1) = some (.slice s.a s.n s.c), ⟨st_pool f1 h52 1 rfl, cx0 h52, cx1 h52⟩, s, fun _ hw => hw.2.2, by omega, by omega, onP_i ha ⟨_, fun w' hw' => (cell1 w' hw'.1).1, _, fun _ hw => hw.2.1, s, fun _ hw => hw.2.2, by omega, by omega, onP_i ha ⟨d, fun w' hw' => (cell1 w' hw'.1).2, ?_⟩⟩⟩
      refine st_emptyF 1 h52 fun w65 h65 => ⟨⟨st_pool f1 h65 2 rfl, st_c0 h65 3 rfl rfl, st_c1 h65 3 rfl rfl⟩, ?_⟩
      refine st_append h65 0 rfl ((hd _ (hfF (st_pool f1 h65 2 rfl))).2) (by rw [hdn]; simp [bytesV, h40k]) (by omega) (by simp [bytesV, Vc.one]) (by simp only; omega) (by omega) rfl fun s66 w67 _ h67 => ⟨⟨st_pool f1 h67 2 rfl, st_c0 h67 3 rfl rfl, st_c1 h67 3 rfl rfl⟩, ?_⟩
      refine st_newF h67 fun w68 h68 => ⟨⟨st_pool f1 h68 3 rfl, st_c0 h68 4 rfl rfl, st_c1 h68 4 rfl rfl⟩, ?_⟩
      refine st_push h68 2 rfl 0 rfl rfl rfl (by omega) (by omega) rfl fun s69 w70 _ h70 => ⟨⟨st_pool f1 h70 3 rfl, st_c0 h70 4 rfl rfl, st_c1 h70 4 rfl rfl⟩, ?_⟩
      have h71 : St (byteRow s66 t.puts[k].data :: pool F' :: ownS 3 s69 (ys.flatMap verC ++ [.int .i64 t.puts[k].lba, .int .i64 t.time, .slice s66.a s66.n s66.c]) :: objA (some ⟨w.heap.size, 0, none⟩) [.int .i64 t.time, slv s] :: r) w70 := st_swap12 (h70.cut 0 (by simp))
      rw [show ys.flatMap verC ++ [.int .i64 t.puts[k].lba, .int .i64 t.time, .slice s66.a s66.n s66.c] = (ys ++ [(s66, (t.puts[k].lba, (⟨t.time, t.puts[k].data⟩ : Put)))]).flatMap verC from verC_snoc ys s66 (t.puts[k].lba, ⟨t.time, t.puts[k].data⟩)] at h71
      obtain ⟨F2, m1, m2, m3, m4⟩ := freezeB f1 h71
      have h72 : St (ownS 3 s69 ((ys ++ [(s66, (t.puts[k].lba, (⟨t.time, t.puts[k].data⟩ : Put)))]).flatMap verC) :: pool F2 :: objA (some ⟨w.heap.size, 0, none⟩) [.int .i64 t.time, slv s] :: r) w70 := st_swap01 m4
      refine ⟨⟨k + 1, e1, by omega, F2, m1, fun h hh => f2 _ (m2 _ hh), _, h72, fun y hy => ?_, ?_, by simp; omega⟩, by simp only [e1]; omega⟩
      · rcases List.mem_append.1 hy with e | e
        · exact fun g hg => hkn y e g (m2 _ hg)
        · obtain rfl : y = _ := by simpa using e
          exact m3
      · rw [← hpm, hmv]; simp
    have hend : i = L.length → ¬ k < t.puts.length → k = t.puts.length := fun _ _ => by omega
    refine bsplit_decide.2 ⟨fun hklt => ?_, fun hkge => ?_⟩
    · have hklt' : k < t.puts.length := by omega
      have hdk := List.drop_eq_getElem_cons hklt'
      rw [onP_some]
      refine ⟨sv, cb6, bsplit_decide.2 ⟨fun hie => part1 hklt' ?_, fun hine => ?_⟩⟩
      · rw [List.drop_eq_nil_of_le (by omega : L.length ≤ i), hdk]
        rfl
      · have hlt' : i < L.length := by omega
        obtain ⟨ad, d, ha, g1, g2, g3⟩ := (hl _ (hfF hF6)).2 k hklt'
        obtain ⟨ad', q, ha', v1, _⟩ := hv.get (hfF hF6) hlt'
        refine ⟨s, cx1 h6, by omega, hklt, onP_i ha ⟨_, g1, ?_⟩⟩
        rw [onP_some]
        refine ⟨sv, cb6, by omega, by omega, onP_i ha' ⟨_, v1, bsplit_decide.2 ⟨fun hpl => part1 hklt' ?_, fun hpl => part2 (fun p hp hlt => ?_) fun e => by omega⟩⟩⟩
        · rw [List.drop_eq_getElem_cons hlt', hdk, mergeV_put hpl]
        · rw [hdk] at hp
          cases hp
          exact hpl
    · refine part2 (fun p hp => ?_) fun _ => by omega
      rw [List.drop_eq_nil_of_le (by omega : t.puts.length ≤ k)] at hp
      simp at hp
  · have hie : i = L.length + 1 := by omega
    have hke := hik hie
    rw [hke, hie, List.drop_length, List.drop_eq_nil_of_le (by omega)] at hpm
    have hpm' : ys.map Prod.snd = M := by simpa [mergeV] using hpm
    rw [onP_some]
    refine st_s1 h4 (i0 + 3) (by simpa using hi0) (by simp) fun w5 h5 => ⟨_, st_c0 h5 2 rfl rfl, ?_⟩
    rw [onP_some]
    refine st_s1 h5 (i0 + 3) (by simp only [List.set_cons_succ, List.getElem?_cons_succ]; rw [List.getElem?_set_self (lt_of_get hi0)]) (by simp) fun w6 h6 => ?_
    have h7 : St (ownS 3 out (ys.flatMap verC) :: pool F' :: objA (some ⟨w.heap.size, 0, none⟩) [.int .i64 t.time, slv s] :: r.set i0 (objA (some ⟨b, 0, none⟩) [.int .i64 X.blocks, slv out, .int .i64 t.time])) w6 := by
      simp only [List.set_cons_succ, List.set_set] at h6
      exact h6
    obtain ⟨F2, m1, m2, m3, m4⟩ := kvers_freeze f1 h7 hkn
    rw [hpm'] at m3
    exact hk F2 out w6 m1 (fun h hh => f2 _ (m2 _ hh)) m3 (m4.cut 1 (by simp))
end Go.Proofs.YtbolgpjcmchfoaaGreat
