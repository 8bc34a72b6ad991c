/- The example that all run; the laws 'ValidReads', 'ValidMore', 'ValidQueue', walked. -/
import Derived.Test.YtbolgpjcmchfoaaG
namespace Go.Proofs.Ytbolgpjcmchfoaa
open Go Go.Vc Go.Sl Go.Mo
theorem put1_on {b t n c : Nat} {k : Int} {s : SV} {d : List UInt8} {R : HP} {w : World} (h : Sat (pt b (.cells #[.int .i64 k, .slice s.a s.n s.c] t) * (ownS 1 s (bytesV d) * R)) w) (hn : n = 1) : putsOn (hp w) ⟨some ⟨b, 0, none⟩, n, c⟩ [⟨k, d⟩] := by
  subst hn
  refine ⟨rfl, fun i hi => ?_⟩
  obtain rfl : i = 0 := by simpa using hi
  exact ⟨⟨b, 0, none⟩, s, rfl, h.cell 0, h.cell 1, byteRow_on h.right.left⟩
theorem ext1_on {b t n c : Nat} {f k : Int} {R : HP} {w : World} (h : Sat (pt b (.cells #[.int .i64 f, .int .i64 k] t) * R) w) (hn : n = 1) : extsOn (hp w) ⟨some ⟨b, 0, none⟩, n, c⟩ [⟨f, k⟩] := by
  subst hn
  refine ⟨rfl, fun i hi => ?_⟩
  obtain rfl : i = 0 := by simpa using hi
  exact ⟨⟨b, 0, none⟩, rfl, h.cell 0, h.cell 1⟩
theorem tx1_on {b t n c : Nat} {k : Int} {s : SV} {l : List Put} {R : HP} {w : World} (h : Sat (pt b (.cells #[.int .i64 k, .slice s.a s.n s.c] t) * R) w) (hp' : putsOn (hp w) s l) (hn : n = 1) : txsOn (hp w) ⟨some ⟨b, 0, none⟩, n, c⟩ [⟨k, l⟩] := by
  subst hn
  refine ⟨rfl, fun i hi => ?_⟩
  obtain rfl : i = 0 := by simpa using hi
  exact ⟨⟨b, 0, none⟩, s, rfl, h.cell 0, h.cell 1, hp'⟩
theorem setOf_set (l : List Ext) (hn : l.length ≤ 2 ^ 29) : SetOk (setOf l) := set_add_ok ⟨by simp, by simp⟩ (by simp; omega)
theorem setOf_nil : (setOf []).l = [] := by simp [setOf, XSet.add]
/-- What is told of sets of extents, in terms of blocks. -/
theorem check_yes {M : XMap} {q : List Tx} {a : Int} {r s : List Ext} (h : clashes M q a (setOf r).l (setOf s).l) : validM M q a (setOf r) (setOf s) = 8 := (valid_iff (setOf_ok r) (setOf_ok s)).1 h
theorem check_no {M : XMap} {q : List Tx} {a : Int} {r s : List Ext} (h : ¬ clashes M q a (setOf r).l (setOf s).l) : validM M q a (setOf r) (setOf s) = 0 := (valid_iff (setOf_ok r) (setOf_ok s)).2 h
theorem check_c {B : Nat} {pm pr ps : Option Addr} {M : XMap} {q : SV} {l : List Tx} {at_ : Int} {r s : List Ext} {R1 R2 R3 : HP} {w : World} {K : Int → World → Prop} (hM : Sat (xmapA pm M * R1) w) (okM : XOk B M) (hB : B ≤ 2 ^ 31) (hr : Sat (setA pr (setOf r) * R2) w) (hrl : r.length ≤ 100) (hs : Sat (setA ps (setOf s) * R3) w) (hsl : s.length ≤ 100)
    (hq : txsOn (hp w) q l) (hql : l.length ≤ 10000 ∧ ∀ t ∈ l, t.puts.length ≤ 10000) (hk : ∀ w', Keep w w' → K (validM M l at_ (setOf r) (setOf s)) w') : c_valid_Check pm q at_ pr ps w K :=
  valid_c hM okM hB hr (setOf_set r (by omega)) hs (setOf_set s (by omega)) hq ⟨by omega, fun t ht => by have := hql.2 t ht; omega⟩ hk
theorem awake_c {w : World} {K : Bool → World → Prop} (hk : ∀ w', Keep w w' → K true w') : c_scarplaw16_awake w K := by
  refine scarplaw16_awake_go ?_
  unfold f_scarplaw16_awake
  refine xmap_new (n := 5) (sat_whole w) (by omega) fun p w2 h2 => ?_
  obtain ⟨b, rfl⟩ := xmap_ptr h2
  refine bsplit_iff.2 ⟨fun e => (by simp at e), fun _ => bsplit_iff.2 ⟨fun e => (by cases e), fun _ => ?_⟩⟩
  refine data_c h2 fun s w4 hs h4 => ?_
  rw [withW_iff]
  have h5 := h4.alloc (.cells #[.int .i64 1, .slice s.a s.n s.c] 53)
  have hdl : (blockB 40 1).length = 40 := blockB_length _ _
  generalize blockB 40 1 = d at h5 hdl
  generalize w4.heap.size = bn at h5 ⊢
  refine xmap_apply (B := 0) (t := ⟨3, [⟨1, d⟩]⟩) (h5.eq (by ac_rfl : _ = xmapA (some ⟨b, 0, none⟩) ⟨5, [], 0⟩ * (pt bn (.cells #[.int .i64 1, .slice s.a s.n s.c] 53) * (ownS 1 s (bytesV d) * whole w)))) ⟨by simp, by simp, by simp⟩ (by omega) (fun w' hw' => put1_on hw' rfl) (by simp) fun w7 h7 => ?_
  have hap : XMap.apply ⟨5, [], 0⟩ ⟨3, [⟨1, d⟩]⟩ = (⟨5, [(1, [⟨3, d⟩])], 3⟩, 0) := by
    simp [XMap.apply, riseM, inB, badLen, hdl, addVer, put, versOf, lkp]
  rw [hap] at h7 ⊢
  have okM : XOk 1 ⟨5, [(1, [⟨3, d⟩])], 3⟩ := ⟨by simp, by simp, by simp [hdl]⟩
  refine bsplit_iff.2 ⟨fun e => (by simp at e), fun _ => ?_⟩
  rw [withW_iff]
  have h8 := h7.alloc (.cells #[.int .i64 1, .int .i64 1] 44)
  refine sets_c (l := [⟨1, 1⟩]) h8 (fun w' hw' => ext1_on hw' rfl) (by simp) fun p1 q1 o1 w10 _ h10 => ?_
  rw [withW_iff]
  have h11 := h10.alloc (.cells #[.int .i64 2, .int .i64 1] 44)
  refine sets_c (l := [⟨2, 1⟩]) h11 (fun w' hw' => ext1_on hw' rfl) (by simp) fun p2 q2 o2 w13 _ h13 => ?_
  refine sets_c (l := []) h13 (fun w' hw' => extsOn_none) (by simp) fun p3 q3 o3 w15 _ h15 => ?_
  refine bsplit_iff.2 ⟨fun _ => bsplit_iff.2 ⟨fun _ => bsplit_iff.2 ⟨fun _ => ?_, fun e => (by cases e)⟩, fun e => (by cases e)⟩, fun e => (by cases e)⟩
  generalize w7.heap.size = e1 at h8 h10 h11 h13 h15
  generalize w10.heap.size = e2 at h11 h13 h15
  have s1 := h15.right.right.right.right.right.left
  have s2 := h15.right.right.left
  have s3 := h15.left
  have sM := h15.right.right.right.right.right.right.right.right
  have c1 : validM ⟨5, [(1, [⟨3, d⟩])], 3⟩ [] 2 (setOf [⟨1, 1⟩]) (setOf [⟨2, 1⟩]) = 8 := check_yes ⟨fun h => by
    have : cov (setOf [⟨2, 1⟩]).l 2 := (setOf_cov (by simp)).2 ⟨by simp [may], cov_one.2 (by simp)⟩
    rw [h] at this
    exact cov_nil this, 1, .inl ((setOf_cov (by simp)).2 ⟨by simp [may], cov_one.2 (by simp)⟩), .inl ⟨[⟨3, d⟩], by simp, by simp [lastT]⟩⟩
  have c2 : validM ⟨5, [(1, [⟨3, d⟩])], 3⟩ [] 3 (setOf [⟨1, 1⟩]) (setOf [⟨2, 1⟩]) = 0 := check_no fun ⟨_, k, _, h⟩ => by
    rcases h with ⟨v, hv, h⟩ | ⟨t, ht, _⟩
    · simp only [List.mem_singleton, Prod.mk.injEq] at hv
      rw [hv.2] at h
      simp [lastT] at h
    · simp at ht
  have c3 : validM ⟨5, [(1, [⟨3, d⟩])], 3⟩ [] 2 (setOf [⟨1, 1⟩]) (setOf []) = 0 := check_no fun ⟨h, _⟩ => h setOf_nil
  refine check_c (l := []) (sM.eq (by rfl)) okM (by omega) (s1.eq (mul_one' _).symm) (by simp) (s2.eq (mul_one' _).symm) (by simp) txsOn_none (by simp) fun w17 k17 => ?_
  rw [c1]
  refine bsplit_decide.2 ⟨fun _ => ?_, fun e => absurd rfl e⟩
  refine check_c (l := []) (k17.sat sM) okM (by omega) ((k17.sat s1).eq (mul_one' _).symm) (by simp) ((k17.sat s2).eq (mul_one' _).symm) (by simp) txsOn_none (by simp) fun w19 k19 => ?_
  rw [c2]
  refine bsplit_decide.2 ⟨fun _ => ?_, fun e => absurd rfl e⟩
  have k1719 := k17.trans k19
  refine check_c (l := []) (k1719.sat sM) okM (by omega) ((k1719.sat s1).eq (mul_one' _).symm) (by simp) ((k1719.sat s3).eq (mul_one' _).symm) (by simp) txsOn_none (by simp) fun w21 k21 => ?_
  rw [c3]
  exact hk _ ((Keep.whole (sM.right.right.right)).trans (k1719.trans k21))
/-! ### The map that is filled -/
theorem rise_range {l : List Put} {n : Int} (hr : riseM l = true) (h0 : 0 ≤ (l.headD ⟨0, []⟩).lba) (h1 : (l.getLastD ⟨0, []⟩).lba < n) : (l.map Put.lba).Pairwise (· < ·) ∧ ∀ p ∈ l, 0 ≤ p.lba ∧ p.lba < n := by
  have hr' : 0 < l.length ∧ (l.map Put.lba).Pairwise (· < ·) := by simpa [riseM] using hr
  obtain ⟨hpos, hp⟩ := hr'
  refine ⟨hp, ?_⟩
  have hp' := List.pairwise_iff_getElem.1 hp
  have e0 : (l.headD ⟨0, []⟩) = l[0] := by cases l with | nil => simp at hpos | cons x r => rfl
  have e1 : (l.getLastD ⟨0, []⟩) = l[l.length - 1] := by rw [List.getLastD_eq_getLast?, List.getLast?_eq_getElem?, List.getElem?_eq_getElem (by omega)]; rfl
  rw [e0] at h0
  rw [e1] at h1
  intro p hpm
  obtain ⟨j, hj, rfl⟩ := List.getElem_of_mem hpm
  have a : l[0].lba ≤ l[j].lba := by
    rcases Nat.eq_zero_or_pos j with e | e
    · subst e; exact Int.le_refl _
    · have := hp' 0 j (by simpa using hpos) (by simpa using hj) e
      simp only [List.getElem_map] at this; omega
  have b : l[j].lba ≤ l[l.length - 1].lba := by
    by_cases e : j = l.length - 1
    · subst e; exact Int.le_refl _
    · have := hp' j (l.length - 1) (by simpa using hj) (by simp; omega) (by omega)
      simp only [List.getElem_map] at this; omega
  omega
theorem rise_length {l : List Int} {n : Nat} (hp : l.Pairwise (· < ·)) (hr : ∀ x ∈ l, 0 ≤ x ∧ x < (n : Int)) : l.length ≤ n := by
  have hp' := List.pairwise_iff_getElem.1 hp
  have key : ∀ i (hi : i < l.length), (i : Int) ≤ l[i] := by
    intro i
    induction i with
    | zero => intro hi; exact (hr _ (List.getElem_mem hi)).1
    | succ i ih =>
      intro hi
      have := hp' i (i + 1) (by omega) hi (by omega)
      have := ih (by omega)
      omega
  rcases Nat.lt_or_ge n l.length with h | h
  · have := key n h
    have := hr _ (List.getElem_mem h)
    omega
  · exact h
/-- What an apply comes to: nothing, or the puts' versions at its time. -/
theorem apply_cases (M : XMap) (t : Tx) : ((M.apply t).1 = M ∧ (M.apply t).2 ≠ 0) ∨ ((M.apply t).2 = 0 ∧ M.last < t.time ∧ (t.puts.map Put.lba).Pairwise (· < ·) ∧ (∀ p ∈ t.puts, 0 ≤ p.lba ∧ p.lba < M.blocks) ∧ (M.apply t).1 = { M with vers := t.puts.foldl (addVer t.time) M.vers, last := t.time }) := by
  unfold XMap.apply
  split
  · exact .inl ⟨rfl, by simp⟩
  · rename_i h1
    split
    · exact .inl ⟨rfl, by simp⟩
    · rename_i h2
      split
      · exact .inl ⟨rfl, by simp⟩
      · rename_i h3
        split
        · exact .inl ⟨rfl, by simp⟩
        · have hin : inB M (t.puts.headD ⟨0, []⟩).lba = true ∧ inB M (t.puts.getLastD ⟨0, []⟩).lba = true := by
            constructor
            · cases e : inB M (t.puts.headD ⟨0, []⟩).lba
              · exact absurd (.inl e) h3
              · rfl
            · cases e : inB M (t.puts.getLastD ⟨0, []⟩).lba
              · exact absurd (.inr e) h3
              · rfl
          simp only [inB, decide_eq_true_eq] at hin
          obtain ⟨a, b⟩ := rise_range (by simpa using h2) hin.1.1 hin.2.2
          exact .inr ⟨rfl, by omega, a, b, rfl⟩
theorem foldl_last {t : Int} : ∀ (l : List Put) (acc : List (Int × List Put)), (∀ q ∈ acc, lastT q.2 ≤ t) → ∀ q ∈ l.foldl (addVer t) acc, lastT q.2 ≤ t
  | [], _, h => h
  | x :: r, acc, h => by
    rw [List.foldl_cons]
    refine foldl_last r _ fun q hq => ?_
    unfold addVer at hq
    rcases mem_put hq with e | e
    · subst e; simp [lastT]
    · exact h q e
/-- What a map of 50 blocks is that is filled by applies. -/
structure Filled (B : Nat) (M : XMap) : Prop where
  ok : XOk B M
  bl : M.blocks = 50
  last : ∀ q ∈ M.vers, lastT q.2 ≤ M.last
theorem filled_new : Filled 0 ⟨50, [], 0⟩ := ⟨⟨by simp, by simp, by simp⟩, rfl, by simp⟩
theorem filled_apply {B : Nat} {M : XMap} (h : Filled B M) (t : Tx) : Filled (B + 1) (M.apply t).1 := by
  rcases apply_cases M t with ⟨e, _⟩ | ⟨_, hlt, hp, hr, e⟩
  · rw [e]
    exact ⟨⟨h.ok.1, Nat.le_trans h.ok.2.1 (Nat.mul_le_mul_right _ (Nat.le_succ B)), fun q hq => by obtain ⟨h1, h2, h3, h4⟩ := h.ok.2.2 q hq; exact ⟨h1, h2, by omega, h4⟩⟩, h.bl, h.last⟩
  · have hlen : t.puts.length ≤ 50 := by
      have := rise_length (n := 50) hp fun x hx => by obtain ⟨y, hy, rfl⟩ := List.mem_map.1 hx; have := hr y hy; rw [h.bl] at this; exact this
      simpa using this
    refine ⟨apply_ok h.ok (by omega), by rw [e]; exact h.bl, ?_⟩
    rw [e]
    exact foldl_last _ _ fun q hq => by have := h.last q hq; omega
/-- The loop that fills it. -/
theorem fill_c {p : Option Addr} {s : SV} {l : List Tx} {R : HP} {w w0 : World} {post : World → Prop} (hs : txsOn (hp w0) s l) (hl : l.length ≤ 10000 ∧ ∀ x ∈ l, x.puts.length ≤ 10000) (h : Sat (xmapA p ⟨50, [], 0⟩ * (R * whole w0)) w)
    (hk : ∀ M w', Filled l.length M → Sat (xmapA p M * (R * whole w0)) w' → post w') :
    loopR (α := Int) (0) w fun x7 w8 next9 => (bsplit (decide ((x7 : Int) < ((s.n : Nat) : Int)))
      ((0 ≤ (x7 : Int) ∧ (x7 : Int) < ((s.n : Nat) : Int) ∧ (onP s.a fun p10 =>
        (∃ g11 : Int × SV, (w8.cell? (p10.add ((x7 : Int).toNat * 2)) = some (.int .i64 g11.1) ∧ w8.cell? ((p10.add ((x7 : Int).toNat * 2)).add 1) = some (.slice g11.2.a g11.2.n g11.2.c)) ∧
          (c_extmap_Map_Apply p g11.1 g11.2 w8 fun (_ : Int) w13 => next9 ((IntKind.i64.wrap (x7 + 1))) w13)))))
      (post w8)) := by
  have hsn := hs.1
  refine loop_i (fun (x : Int) w' => ∃ (i : Nat) (M : XMap), x = i ∧ i ≤ l.length ∧ Filled i M ∧ Sat (xmapA p M * (R * whole w0)) w') (fun x _ => (l.length - x).toNat) ⟨0, _, rfl, by omega, filled_new, h⟩ ?_
  rintro x w8 ⟨i, M, rfl, hi, hM, hw⟩
  rw [hsn]
  refine bsplit_decide.2 ⟨fun hlt => ?_, fun hge => ?_⟩
  · have hi' : i < l.length := by omega
    obtain ⟨ad, d, ha, g1, g2, g3⟩ := hs.2 i hi'
    have kw : Keep w0 w8 := Keep.whole hw.right.right
    refine ⟨by omega, by omega, onP_i ha ⟨(l[i].time, d), ⟨keep_cell kw g1, keep_cell kw g2⟩, ?_⟩⟩
    have hpl := hl.2 _ (List.getElem_mem hi')
    refine xmap_apply (t := l[i]) hw hM.ok (by omega) (fun w' hw' => putsOn_le (keep_le (Keep.whole hw'.right)) g3) (by omega) fun w13 h13 => ?_
    have e1 : IntKind.i64.wrap ((i : Int) + 1) = ((i + 1 : Nat) : Int) := by rw [wrap_of (by omega) (by omega)]; omega
    exact ⟨⟨i + 1, _, e1, by omega, filled_apply hM _, h13⟩, by rw [e1]; omega⟩
  · obtain rfl : i = l.length := by omega
    exact hk M w8 hM hw
end Go.Proofs.Ytbolgpjcmchfoaa
