/- The reference's map of versions. -/
import Derived.Test.YtbolgpjcmchfoaaGreatUf
namespace Go.Proofs.YtbolgpjcmchfoaaGreat
open Go Go.Vc Go.Sl Go.Mo
theorem verC_snoc (ys : List (SV × (Int × Put))) (d : SV) (v : Int × Put) : ys.flatMap verC ++ [.int .i64 v.1, .int .i64 v.2.lba, .slice d.a d.n d.c] = (ys ++ [(d, v)]).flatMap verC := by simp [verC, slv]
theorem verC_len (ys : List (SV × (Int × Put))) : (ys.flatMap verC).length = ys.length * 3 := flat_len (C := verC) (fun _ => rfl) ys
theorem kvers_freeze {F : Heap → Prop} {s : SV} {ys : List (SV × (Int × Put))} {r : List HP} {w : World} (hF : Mono F) (h : St (ownS 3 s (ys.flatMap verC) :: pool F :: r) w) (hy : ∀ y ∈ ys, Known F (y.1, y.2.2.data)) :
    ∃ F' : Heap → Prop, Mono F' ∧ (∀ h, F' h → F h) ∧ KVers F' s (ys.map Prod.snd) ∧ St (pool F' :: r) w := by
  obtain ⟨F', a, b, c, d⟩ := freeze hF h
  exact ⟨F', a, b, ⟨ys, rfl, c, fun y hy' g hg => hy y hy' g (b g hg)⟩, d⟩
theorem rin_c {b : Nat} {n : Int} {e : Ext} {F : Heap → Prop} {r : List HP} {w : World} {u1 u2 : Value} {K : Bool → World → Prop} (h : St (pool F :: r) w) (i0 : Nat) (hi0 : r[i0]? = some (objA (some ⟨b, 0, none⟩) [.int .i64 n, u1, u2])) (hn : 1 ≤ n ∧ n ≤ 1048576)
    (hk : ∀ w', St (pool F :: r) w' → K (decide (0 ≤ e.first) && decide (1 ≤ e.len) && decide (e.len ≤ n) && decide (e.first ≤ n - e.len)) w') : c_scarpref11_Map_in (some ⟨b, 0, none⟩) e.first e.len w K := by
  refine scarpref11_Map_in_go ?_
  unfold f_scarpref11_Map_in
  refine st_newF h fun w1 h1 => st_drew h1 fun w3 h3 => ?_
  refine ⟨St (objA (some ⟨w.heap.size, 0, none⟩) [.int .i64 e.first, .int .i64 e.len] :: pool F :: r), h3, (e.first, e.len), fun w5 h5 => ⟨st_c0 h5 0 rfl rfl, st_c1 h5 0 rfl rfl⟩, rmay_c (a := e) fun w7 k7 => ?_⟩
  have h7 := h3.keep k7
  refine ⟨h7, bsplit_iff.2 ⟨fun q => ?_, fun q => ?_⟩⟩
  · have hx := may_okX q
    unfold okX at hx
    refine ⟨_, fun w' h' => st_c0 h' 0 rfl rfl, _, fun w' h' => st_c1 h' 0 rfl rfl, ?_⟩
    rw [onP_some]
    refine ⟨n, fun w' h' => st_c0 h' (i0 + 2) (by simpa using hi0) rfl, ?_⟩
    rw [wrap_of (by omega) (by omega)]
    have := hk w7 (h7.cut 0 (by simp))
    have e2 : (decide (0 ≤ e.first) && decide (1 ≤ e.len) && decide (e.len ≤ n) && decide (e.first ≤ n - e.len)) = decide (e.first + e.len ≤ n) := by
      by_cases p : e.first + e.len ≤ n
      · simp [p]; omega
      · simp [p]; omega
    rw [e2] at this; exact this
  · have := hk w7 (h7.cut 0 (by simp))
    have e2 : (decide (0 ≤ e.first) && decide (1 ≤ e.len) && decide (e.len ≤ n) && decide (e.first ≤ n - e.len)) = false := by
      have : ¬ (0 ≤ e.first ∧ 1 ≤ e.len ∧ e.len ≤ n ∧ e.first ≤ n - e.len) := fun hp => by
        have : may e = true := by simp [may]; omega
        rw [this] at q; cases q
      simp; omega
    rw [e2] at this; exact this
theorem zrow40 : zrow [.int .u8 0] (40 : Int).toNat = bytesV zeros := by kernel_rfl
theorem rmap_get {b : Nat} {n k t : Int} {u : Value} {sv : SV} {L : List (Int × Put)} {F : Heap → Prop} {r : List HP} {w : World} {K : SV × Int → World → Prop} (hF : Mono F) (h : St (pool F :: r) w) (i0 : Nat) (hi0 : r[i0]? = some (objA (some ⟨b, 0, none⟩) [.int .i64 n, slv sv, u])) (hv : KVers F sv L) (hL : L.length ≤ 2 ^ 60) (hk0 : 0 ≤ k ∧ k < n)
    (hk : ∀ F' d w', Mono F' → (∀ h, F' h → F h) → Known F' (d, (getR L k t).1) → St (pool F' :: r) w' → K (d, (getR L k t).2) w') : c_scarpref11_Map_Get (some ⟨b, 0, none⟩) k t w K := by
  refine scarpref11_Map_Get_go ?_
  unfold f_scarpref11_Map_Get
  refine bsplit_decide.2 ⟨fun q => by omega, fun _ => ?_⟩
  rw [onP_some]
  refine ⟨n, st_c0 h (i0 + 1) (by simpa using hi0) rfl, bsplit_decide.2 ⟨fun q => by omega, fun _ => ⟨by omega, by omega, by omega, by omega, ?_⟩⟩⟩
  rw [withW_iff]
  have h3 : Sat (byteRow ⟨some ⟨w.heap.size, 0, none⟩, (40 : Int).toNat, (40 : Int).toNat⟩ zeros * (pool F * bigS r)) (w.alloc (.cells (zrow [.int .u8 0] (40 : Int).toNat).toArray 5)) := by
    rw [zrow40]
    exact ownS_mk (sp := []) (by rw [List.append_nil]; exact Sat.alloc _ h) (by simp [bytesV, zeros]) (by decide) (by simp [bytesV, zeros])
  obtain ⟨F', f1, f2, f3, f4⟩ := freezeB hF h3
  have hv' := hv.more f2
  have hsn := hv.n
  refine loop_i (fun (x : SV × Int × Int) w' => ∃ i : Nat, x.2.2 = (i : Int) ∧ i ≤ L.length ∧ St (pool F' :: r) w' ∧ Known F' (x.1, (getR (L.take i) k t).1) ∧ x.2.1 = (getR (L.take i) k t).2) (fun x _ => L.length - x.2.2.toNat) ⟨0, rfl, by omega, f4, f3, rfl⟩ ?_
  rintro ⟨d, tm, x⟩ w' ⟨i, hx, hi, h', hkn, htm⟩
  simp only at hx hkn htm; subst hx
  dsimp only
  have cb : w'.cell? ((⟨b, 0, none⟩ : Addr).add 1) = some (.slice sv.a sv.n sv.c) := st_c1 h' (i0 + 1) (by simpa using hi0) rfl
  rw [onP_some]
  refine ⟨sv, cb, bsplit_decide.2 ⟨fun hlt => ?_, fun hge => ?_⟩⟩
  · have hlt' : i < L.length := by omega
    obtain ⟨ad, q, ha, c1, c2, c3, c4⟩ := hv'.get (st_pool f1 h' 0 rfl) hlt'
    have e1 := inc_of hlt' (by omega)
    have htk := List.take_succ_eq_append_getElem hlt'
    rw [onP_some]
    refine ⟨sv, cb, by omega, hlt, onP_i ha ⟨_, c1, bsplit_decide.2 ⟨fun q1 => ?_, fun q1 => ?_⟩⟩⟩
    · rw [onP_some]
      refine ⟨sv, cb, by omega, hlt, onP_i ha ⟨_, c2, bsplit_decide.2 ⟨fun q2 => ?_, fun q2 => ?_⟩⟩⟩
      · rw [onP_some]
        refine ⟨sv, cb, by omega, hlt, onP_i ha ⟨q, c3, ?_⟩⟩
        rw [onP_some]
        refine ⟨sv, cb, by omega, hlt, onP_i ha ⟨_, c2, ?_⟩⟩
        rw [withI_iff]
        refine ⟨⟨i + 1, e1, by omega, h', ?_, ?_⟩, by simp only [e1]; omega⟩
        · rw [htk, getR_snoc, if_pos ⟨q1, q2⟩]; exact c4
        · rw [htk, getR_snoc, if_pos ⟨q1, q2⟩]
      · rw [withI_iff]
        refine ⟨⟨i + 1, e1, by omega, h', ?_, ?_⟩, by simp only [e1]; omega⟩
        · rw [htk, getR_snoc, if_neg fun p => q2 p.2]; exact hkn
        · rw [htk, getR_snoc, if_neg fun p => q2 p.2]; exact htm
    · rw [withI_iff]
      refine ⟨⟨i + 1, e1, by omega, h', ?_, ?_⟩, by simp only [e1]; omega⟩
      · rw [htk, getR_snoc, if_neg fun p => q1 p.1]; exact hkn
      · rw [htk, getR_snoc, if_neg fun p => q1 p.1]; exact htm
  · obtain rfl : i = L.length := by omega
    rw [List.take_length] at hkn htm
    rw [htm]
    exact hk F' d w' f1 f2 hkn h'
theorem rmap_prune {b : Nat} {t : Int} {u1 u2 : Value} {sv : SV} {L : List (Int × Put)} {F : Heap → Prop} {r : List HP} {w : World} {K : Int → World → Prop} (hF : Mono F) (h : St (pool F :: r) w) (i0 : Nat) (hi0 : r[i0]? = some (objA (some ⟨b, 0, none⟩) [u1, slv sv, u2])) (hv : KVers F sv L) (hL : L.length ≤ 2 ^ 36)
    (hk : ∀ F' sv' w', Mono F' → (∀ h, F' h → F h) → KVers F' sv' (pruneR t L) → St (pool F' :: r.set i0 (objA (some ⟨b, 0, none⟩) [u1, slv sv', u2])) w' → K ((L.length : Int) - (pruneR t L).length) w') : c_scarpref11_Map_Prune (some ⟨b, 0, none⟩) t w K := by
  refine scarpref11_Map_Prune_go ?_
  unfold f_scarpref11_Map_Prune
  have hsn := hv.n
  refine loop_i (fun (x : Int × SV × Int) w' => ∃ i : Nat, x.2.2 = (i : Int) ∧ i ≤ L.length ∧ ∃ ys : List (SV × (Int × Put)), St (ownS 3 x.2.1 (ys.flatMap verC) :: pool F :: r) w' ∧ (∀ y ∈ ys, Known F (y.1, y.2.2.data)) ∧ ys.map Prod.snd ++ pruneR t (L.drop i) = pruneR t L ∧ 0 ≤ x.1 ∧ x.1 + (ys.length : Int) = (i : Int)) (fun x _ => L.length - x.2.2.toNat)
    ⟨0, rfl, by omega, [], st_nilF 3 h, fun _ h => by simp at h, rfl, by omega, rfl⟩ ?_
  rintro ⟨n, out, x⟩ w' ⟨i, hx, hi, ys, h', hkn, hp, hc0, hc⟩
  simp only at hx h' hc0 hc; subst hx
  dsimp only
  have hol := st_len h' 0 rfl
  rw [verC_len] at hol
  have cb : ∀ {w' : World} {A : HP}, St (A :: pool F :: r) w' → w'.cell? ((⟨b, 0, none⟩ : Addr).add 1) = some (.slice sv.a sv.n sv.c) := fun h => st_c1 h (i0 + 2) (by simpa using hi0) rfl
  have cb1 := cb h'
  rw [onP_some]
  refine ⟨sv, cb1, bsplit_decide.2 ⟨fun hlt => ?_, fun hge => ?_⟩⟩
  · have hlt' : i < L.length := by omega
    have h2 := h'.drew
    rw [withW_iff]
    generalize w'.drew = w2 at h2 ⊢
    have hF2 := st_pool hF h2 1 rfl
    have cb2 := cb h2
    obtain ⟨ad, q, ha, c1, c2, c3, c4⟩ := hv.get hF2 hlt'
    have e1 := inc_of hlt' (by omega)
    have hdr := List.drop_eq_getElem_cons hlt'
    have keep : pruneR t (L.drop i) = L[i] :: pruneR t (L.drop (i + 1)) → f_scarpref11_Map_Prune_p1 (some ⟨b, 0, none⟩) w2 (n, out, (i : Int)) (fun x w' => (∃ i : Nat, x.2.2 = (i : Int) ∧ i ≤ L.length ∧ ∃ ys : List (SV × (Int × Put)), St (ownS 3 x.2.1 (ys.flatMap verC) :: pool F :: r) w' ∧ (∀ y ∈ ys, Known F (y.1, y.2.2.data)) ∧ ys.map Prod.snd ++ pruneR t (L.drop i) = pruneR t L ∧ 0 ≤ x.1 ∧ x.1 + (ys.length : Int) = (i : Int)) ∧ L.length - x.2.2.toNat < L.length - (i : Int).toNat) := fun hpr => by
      unfold f_scarpref11_Map_Prune_p1
      dsimp only
      rw [onP_some]
      refine ⟨sv, cb2, by omega, hlt, onP_i ha ⟨(L[i].1, L[i].2.lba, q), ⟨c1, c2, c3⟩, st_newF h2 fun w3 h3 => st_push h3 1 rfl 0 rfl rfl rfl (by omega) (by omega) rfl fun s4 w4 _ h4 => ?_⟩⟩
      rw [withI_iff]
      refine ⟨⟨i + 1, e1, by omega, ys ++ [(q, L[i])], ?_, fun y hy => ?_, ?_, hc0, ?_⟩, by simp only [e1]; omega⟩
      · have := h4.cut 0 (by simp)
        simp only [List.set_cons_succ, List.set_cons_zero, List.eraseIdx_cons_zero] at this
        rw [verC_snoc] at this
        exact this
      · rcases List.mem_append.1 hy with e | e
        · exact hkn y e
        · obtain rfl : y = (q, L[i]) := by simpa using e
          exact c4
      · rw [← hp, hpr]; simp
      · simp only [List.length_append, List.length_singleton]; omega
    rw [onP_some]
    refine ⟨sv, cb2, ?_⟩
    rw [e1]
    refine bsplit_decide.2 ⟨fun q1 => ?_, fun q1 => keep ?_⟩
    · have hlt2 : i + 1 < L.length := by omega
      obtain ⟨ad', q', ha', d1, d2, d3, d4⟩ := hv.get hF2 hlt2
      have hdr2 := List.drop_eq_getElem_cons hlt2
      rw [onP_some]
      refine ⟨sv, cb2, by omega, q1, onP_i ha' ⟨_, d1, ?_⟩⟩
      rw [onP_some]
      refine ⟨sv, cb2, by omega, hlt, onP_i ha ⟨_, c1, bsplit_decide.2 ⟨fun q2 => ?_, fun q2 => keep ?_⟩⟩⟩
      · rw [onP_some]
        refine ⟨sv, cb2, by omega, q1, onP_i ha' ⟨_, d2, bsplit_decide.2 ⟨fun q3 => ?_, fun q3 => keep ?_⟩⟩⟩
        · rw [withI_iff]
          have hn : IntKind.i64.wrap (n + 1) = n + 1 := by rw [wrap_of (by omega) (by omega)]
          refine ⟨⟨i + 1, by rfl, by omega, ys, h2, hkn, ?_, by rw [hn]; omega, by rw [hn]; omega⟩, by omega⟩
          rw [← hp, hdr, hdr2]
          conv => rhs; unfold pruneR
          rw [if_pos ⟨q2, q3⟩]
        · rw [hdr, hdr2]
          conv => lhs; unfold pruneR
          rw [if_neg fun p => q3 p.2]
      · rw [hdr, hdr2]
        conv => lhs; unfold pruneR
        rw [if_neg fun p => q2 p.1]
    · rw [hdr, List.drop_eq_nil_of_le (by omega)]
      rfl
  · obtain rfl : i = L.length := by omega
    rw [List.drop_length] at hp
    have hp' : ys.map Prod.snd = pruneR t L := by simpa [pruneR] using hp
    rw [onP_some]
    refine st_s1 h' (i0 + 2) (by simpa using hi0) (by simp) fun w2 h2 => ?_
    have h3 : St (ownS 3 out (ys.flatMap verC) :: pool F :: r.set i0 (objA (some ⟨b, 0, none⟩) [u1, slv out, u2])) w2 := h2
    obtain ⟨F', f1, f2, f3, f4⟩ := kvers_freeze hF h3 hkn
    have hlen : ys.length = (pruneR t L).length := by rw [← hp', List.length_map]
    have := hk F' out w2 f1 f2 (hp' ▸ f3) f4
    rw [show n = (L.length : Int) - (pruneR t L).length from by omega]
    exact this
end Go.Proofs.YtbolgpjcmchfoaaGreat
