/- The law 'ValidRows', walked to its end. -/
import Derived.Test.YtbolgpjcmchfoaaJ
namespace Go.Proofs.Ytbolgpjcmchfoaa
open Go Go.Vc Go.Sl Go.Mo
abbrev flatT (xs : List (SV × Tx)) : List Value := xs.flatMap fun x => [.int .i64 x.2.time, slv x.1]
theorem flatT_length (xs : List (SV × Tx)) : (flatT xs).length = xs.length * 2 := flat2_length (fun x : SV × Tx => .int .i64 x.2.time) (fun x => slv x.1) xs
theorem flatT_one (xs : List (SV × Tx)) : (flatT xs).all Vc.one = true := flat2_one (fun x : SV × Tx => .int .i64 x.2.time) (fun x => slv x.1) xs (fun _ => rfl) (fun _ => rfl)
theorem flatT_get (xs : List (SV × Tx)) (i : Nat) (hi : i < xs.length) : (flatT xs)[i * 2]? = some (.int .i64 xs[i].2.time) ∧ (flatT xs)[i * 2 + 1]? = some (slv xs[i].1) := flat2_get (fun x : SV × Tx => .int .i64 x.2.time) (fun x => slv x.1) xs i hi
/-- A row of one's own, whose puts lie elsewhere. -/
theorem own_txs {s : SV} {xs : List (SV × Tx)} {R : HP} {w : World} (h : Sat (ownS 2 s (flatT xs) * R) w) (hx : ∀ x ∈ xs, putsOn (hp w) x.1 x.2.puts) : txsOn (hp w) s (xs.map Prod.snd) := by
  have hl := ownS_length h
  rw [flatT_length] at hl
  refine ⟨by simp; omega, fun i hi => ?_⟩
  have hi' : i < xs.length := by simpa using hi
  obtain ⟨g1, g2⟩ := flatT_get xs i hi'
  have hlen := flatT_length xs
  obtain ⟨b, hb, hc⟩ := ownS_cell h (i := i * 2) (by omega)
  refine ⟨⟨b, 0, none⟩, xs[i].1, hb, ?_, ?_, ?_⟩
  · rw [add_mk, Nat.zero_add]
    have := hc (i * 2) (by omega)
    rw [← List.getElem?_eq_getElem, g1] at this
    simp only [List.getElem_map]
    exact this
  · rw [add_mk, add_mk, Nat.zero_add]
    have := hc (i * 2 + 1) (by omega)
    rw [← List.getElem?_eq_getElem, g2] at this
    exact this
  · simpa using hx _ (List.getElem_mem hi')
/-- A row of transactions, its slices told. -/
theorem txs_split {h : Heap} {s : SV} {l : List Tx} (hl : txsOn h s l) : ∃ xs : List (SV × Tx), xs.map Prod.snd = l ∧ (∀ x ∈ xs, putsOn h x.1 x.2.puts) ∧ ∀ i (hi : i < xs.length), ∃ ad, s.a = some ad ∧ cellH h (ad.add (i * 2)) = some (.int .i64 xs[i].2.time) ∧ cellH h ((ad.add (i * 2)).add 1) = some (slv xs[i].1) := by
  have key : ∀ i, ∃ d : SV, ∀ hi : i < l.length, ∃ ad, s.a = some ad ∧ cellH h (ad.add (i * 2)) = some (.int .i64 l[i].time) ∧ cellH h ((ad.add (i * 2)).add 1) = some (.slice d.a d.n d.c) ∧ putsOn h d l[i].puts := fun i => by
    by_cases hi : i < l.length
    · obtain ⟨ad, d, a, b, c, e⟩ := hl.2 i hi
      exact ⟨d, fun _ => ⟨ad, a, b, c, e⟩⟩
    · exact ⟨⟨none, 0, 0⟩, fun h => absurd h hi⟩
  obtain ⟨f, hf⟩ := Classical.axiomOfChoice key
  have hlen : (l.zipIdx.map fun x => (f x.2, x.1)).length = l.length := by simp
  have hget : ∀ i (hi : i < (l.zipIdx.map fun x => (f x.2, x.1)).length), (l.zipIdx.map fun x => (f x.2, x.1))[i] = (f i, l[i]'(by rw [hlen] at hi; exact hi)) := fun i hi => by simp
  refine ⟨l.zipIdx.map fun x => (f x.2, x.1), ?_, fun x hx => ?_, fun i hi => ?_⟩
  · refine List.ext_getElem (by simp) fun i h1 h2 => ?_
    rw [List.getElem_map, hget]
  · obtain ⟨i, hi, rfl⟩ := List.getElem_of_mem hx
    rw [hget]
    obtain ⟨ad, _, _, _, e⟩ := hf i (by rw [hlen] at hi; exact hi)
    exact e
  · rw [hget]
    obtain ⟨ad, a, b, c, _⟩ := hf i (by rw [hlen] at hi; exact hi)
    exact ⟨ad, a, b, c⟩
theorem split_row {h : Heap} {s : SV} {xs : List (SV × Tx)} (hc : ∀ i (hi : i < xs.length), ∃ ad, s.a = some ad ∧ cellH h (ad.add (i * 2)) = some (.int .i64 xs[i].2.time) ∧ cellH h ((ad.add (i * 2)).add 1) = some (slv xs[i].1)) : rowOn h s (flatT xs) := by
  refine ⟨fun hn => ?_, fun ad had j hj => ?_⟩
  · cases xs with
    | nil => rfl
    | cons x r =>
      obtain ⟨ad, ha, _⟩ := hc 0 (by simp)
      rw [hn] at ha; cases ha
  · rw [flatT_length] at hj
    have hi : j / 2 < xs.length := by omega
    obtain ⟨ad', ha, h1, h2⟩ := hc (j / 2) hi
    rw [had] at ha; cases ha
    obtain ⟨g1, g2⟩ := flatT_get xs (j / 2) hi
    rcases Nat.mod_two_eq_zero_or_one j with e | e
    · have ej : j = j / 2 * 2 := by omega
      have : (flatT xs)[j]? = some (.int .i64 xs[j / 2].2.time) := by rw [← g1]; congr 1
      rw [List.getElem?_eq_some_iff] at this
      rw [this.2, ← h1]; congr 2
    · have ej : j = j / 2 * 2 + 1 := by omega
      have : (flatT xs)[j]? = some (slv xs[j / 2].1) := by rw [← g2]; congr 1
      rw [List.getElem?_eq_some_iff] at this
      have hadd : (ad.add (j / 2 * 2)).add 1 = ad.add j := by
        unfold Addr.add
        by_cases h0 : j / 2 * 2 = 0
        · have : j = 1 := by omega
          subst this; rfl
        · have : j ≠ 0 := by omega
          simp [h0, this]; omega
      rw [this.2, ← h2, hadd]
theorem push_tx {s : SV} {xs : List (SV × Tx)} {x : SV × Tx} {e b : Nat} {R : HP} {w : World} {K : SV → World → Prop} (h : Sat (ownS 2 s (flatT xs) * R) w) (hc : w.cell? ⟨b, 0, none⟩ = some (.int .i64 x.2.time) ∧ w.cell? ⟨b, 1, none⟩ = some (slv x.1)) (hl : xs.length ≤ 2 ^ 30) (hk : ∀ s' w', Sat (ownS 2 s' (flatT (xs ++ [x])) * R) w' → K s' w') :
    appendR s ⟨some ⟨b, 0, none⟩, 1, 1⟩ 2 32 [.int .i64 0, .slice none 0 0] e w K := by
  have hn := ownS_length h
  rw [flatT_length] at hn
  refine append_own (news := [.int .i64 x.2.time, slv x.1]) h rfl rfl (fun ad had => ?_) (fun hno => by cases hno) (by simp only; omega) (by omega) rfl fun s' w' hs' hw' => hk s' w' ?_
  · cases had
    exact ⟨hc.1, hc.2⟩
  · unfold flatT
    rw [List.flatMap_append]
    simpa using hw'
theorem txs_spot {h : Heap} {s : SV} {l : List Tx} (hl : txsOn h s l) (h0 : 0 < l.length) : ∃ b o, s.a = some ⟨b, o, none⟩ := by
  obtain ⟨ad, d, ha, h1, _, _⟩ := hl.2 0 h0
  obtain ⟨b, o, sp⟩ := ad
  cases sp with
  | none => exact ⟨b, o, ha⟩
  | some x =>
    exfalso
    have e0 : (⟨b, o, some x⟩ : Addr).add (0 * 2) = ⟨b, o, some x⟩ := by unfold Addr.add; simp
    rw [e0] at h1
    unfold cellH at h1
    split at h1 <;> simp at h1
theorem txs_drop {h : Heap} {s : SV} {l : List Tx} (hl : txsOn h s l) (h0 : 1 < l.length) (hc : s.n ≤ s.c) (n c : Nat) (hn : n = l.length - 1) : txsOn h ⟨sub? s.a 1 s.c 2, n, c⟩ (l.drop 1) := by
  obtain ⟨b, o, ha⟩ := txs_spot hl (by omega)
  have hsn := hl.1
  refine ⟨by simp [hn], fun i hi => ?_⟩
  have hi' : i + 1 < l.length := by simp at hi; omega
  obtain ⟨ad, d, h1, h2, h3, h4⟩ := hl.2 (i + 1) hi'
  rw [ha] at h1; cases h1
  refine ⟨⟨b, o + 2, none⟩, d, ?_, ?_, ?_, ?_⟩
  · unfold sub?
    rw [if_neg (by omega), ha]
    simp
  · rw [add_mk] at h2 ⊢
    rw [show o + 2 + i * 2 = o + (i + 1) * 2 from by omega]
    simpa [Nat.add_comm] using h2
  · rw [add_mk, add_mk] at h3 ⊢
    rw [show o + 2 + i * 2 + 1 = o + (i + 1) * 2 + 1 from by omega]
    exact h3
  · simpa [Nat.add_comm] using h4
/-- The last of the law's questions: the first transaction once more behind all. -/
theorem rows_last {xs : List (SV × Tx)} {x : SV × Tx} {s : SV} {b e : Nat} {R : HP} {w w0 w1 : World} {K : Bool → World → Prop} (hx : ∀ y ∈ xs ++ [x], putsOn (hp w0) y.1 y.2.puts) (hn : xs.length ≤ 10000) (hpl : ∀ y ∈ xs ++ [x], y.2.puts.length ≤ 10000) (ho : orderM 0 ((xs ++ [x]).map Prod.snd) = false)
    (h : Sat (ownS 2 s (flatT xs) * (R * whole w1)) w) (k01 : Keep w0 w1) (hc : w.cell? ⟨b, 0, none⟩ = some (.int .i64 x.2.time) ∧ w.cell? ⟨b, 1, none⟩ = some (slv x.1)) (hk : ∀ w', Keep w0 w' → K true w') :
    appendR s ⟨some ⟨b, 0, none⟩, 1, 1⟩ 2 32 [.int .i64 0, .slice none 0 0] e w fun s46 w47 => Keep w1 w47 ∧ c_valid_Order s46 w47 fun x48 w49 => Keep w1 w49 ∧ bsplit (!x48) (c_scarplaw16_awake w49 fun x50 w51 => Keep w1 w51 ∧ K x50 w51) (K false w49) := by
  refine push_tx h hc (by omega) fun s46 w47 h47 => ?_
  have k47 : Keep w1 w47 := Keep.whole h47.right.right
  have kk := k01.trans k47
  have on := own_txs h47 fun y hy => putsOn_le (keep_le kk) (hx y hy)
  refine ⟨k47, order_c on ⟨by simp; omega, fun t ht => ?_⟩ fun w49 k49 => ⟨k47.trans k49, ?_⟩⟩
  · obtain ⟨y, hy, rfl⟩ := List.mem_map.1 ht
    have := hpl y hy; omega
  rw [ho]
  refine bsplit_iff.2 ⟨fun _ => ?_, fun e => (by cases e)⟩
  exact awake_c fun w51 k51 => ⟨k47.trans (k49.trans k51), hk _ (kk.trans (k49.trans k51))⟩
theorem rows_c {s : SV} {l : List Tx} {w : World} {K : Bool → World → Prop} (hl : txsOn (hp w) s l) (hcap : s.n ≤ s.c) (hk : ∀ w', Keep w w' → K true w') : c_scarplaw16_ValidRows s w K := by
  refine scarplaw16_ValidRows_go ?_
  unfold f_scarplaw16_ValidRows
  have hsn := hl.1
  refine small_c hl txsOn_none fun y w2 k2 hsm => ?_
  have aw : ∀ w', Keep w w' → c_scarplaw16_awake w' fun x w'' => K x w'' := fun w' k => awake_c fun w'' k' => hk _ (k.trans k')
  refine bsplit_iff.2 ⟨fun _ => aw _ k2, fun hy => ?_⟩
  obtain ⟨b1, _⟩ := hsm (by simpa using hy)
  refine bsplit_decide.2 ⟨fun _ => aw _ k2, fun h2 => ?_⟩
  have hlen : 2 ≤ l.length := by omega
  have hb : l.length ≤ 2 ^ 40 ∧ ∀ t ∈ l, t.puts.length ≤ 2 ^ 40 := ⟨by omega, fun t ht => by have := b1.2 t ht; omega⟩
  have hw1 : IntKind.i64.wrap (((s.n : Nat) : Int) - 1) = ((l.length - 1 : Nat) : Int) := by rw [wrap_of (by omega) (by omega)]; omega
  have hz : (0 : Int).toNat = 0 := rfl
  obtain ⟨sb, so, hsa⟩ := txs_spot hl (by omega)
  have hsub : sub? s.a 0 s.c 2 = s.a := sub_zero fun ad e => by rw [hsa] at e; cases e; rfl
  have htake : ∀ w', Keep w w' → txsOn (hp w') ⟨s.a, l.length - 1, s.c - 0⟩ (l.take (l.length - 1)) := fun w' k => txsOn_take (txsOn_le (keep_le k) hl) (by omega) _
  have hbt : (l.take (l.length - 1)).length ≤ 2 ^ 40 ∧ ∀ t ∈ l.take (l.length - 1), t.puts.length ≤ 2 ^ 40 := ⟨by simp; omega, fun t ht => hb.2 t (List.mem_of_mem_take ht)⟩
  refine order_c (txsOn_le (keep_le k2) hl) hb fun w8 k8 => ?_
  have k28 := k2.trans k8
  simp only [hw1, hz, hsub, Int.toNat_natCast, Nat.sub_zero]
  refine bsplit_iff.2 ⟨fun hno => ?_, fun hyes => ?_⟩
  · rw [withW_iff]
    have k10 := k28.trans (Keep.drew w8)
    refine ⟨fun w' => Keep w w', k10, by omega, by omega, by omega, by omega, by omega, by omega, ?_⟩
    have ht := htake _ k10
    simp only [Nat.sub_zero] at ht
    refine order_c ht hbt fun w12 k12 => ⟨k10.trans k12, ?_⟩
    refine rorder_c (txsOn_le (keep_le k12) ht) hbt fun w14 k14 => ⟨k10.trans (k12.trans k14), ?_⟩
    refine bsplit_iff.2 ⟨fun _ => ?_, fun e => (by simp at e)⟩
    exact awake_c fun w16 k16 => ⟨k10.trans (k12.trans (k14.trans k16)), hk _ (k10.trans (k12.trans (k14.trans k16)))⟩
  · have hord : orderM 0 l = true := by simpa using hyes
    rw [withI_iff]
    obtain ⟨xs, hxs, hxp, hxc⟩ := txs_split hl
    have hxl : xs.length = l.length := by have := congrArg List.length hxs; simpa using this
    have hxg : ∀ i (hi : i < xs.length), xs[i].2 = l[i]'(by omega) := fun i hi => by
      have := List.getElem_of_eq hxs (show i < (xs.map Prod.snd).length by simpa using hi)
      simpa using this
    have hxpl : ∀ y ∈ xs, y.2.puts.length ≤ 10000 := fun y hy => b1.2 y.2 (by rw [← hxs]; exact List.mem_map_of_mem hy)
    have h8 : Sat (ownS 2 ⟨none, 0, 0⟩ (flatT (xs.reverse.take 0)) * whole w) w8 := ownS_nil (k28.sat (sat_whole w)) rfl rfl
    refine loop_i (fun (x : SV × Int) w' => ∃ j : Nat, x.2 = (l.length : Int) - 1 - j ∧ j ≤ l.length ∧ Sat (ownS 2 x.1 (flatT (xs.reverse.take j)) * whole w) w') (fun x _ => (x.2 + 1).toNat) ⟨0, by simp only; omega, by omega, h8⟩ ?_
    rintro ⟨st, x⟩ w19 ⟨j, hx, hj, h19⟩
    simp only at hx h19; subst hx
    dsimp only
    refine bsplit_decide.2 ⟨fun h0 => ?_, fun h0 => ?_⟩
    · have hj' : j < l.length := by omega
      have e1 : ((l.length : Int) - 1 - j).toNat = l.length - 1 - j := by omega
      have hi' : l.length - 1 - j < xs.length := by omega
      obtain ⟨ad, ha, g1, g2⟩ := hxc _ hi'
      have k19 : Keep w w19 := Keep.whole h19.right
      rw [e1]
      refine ⟨by omega, by omega, onP_i ha ⟨(xs[l.length - 1 - j].2.time, xs[l.length - 1 - j].1), ⟨keep_cell k19 g1, keep_cell k19 g2⟩, ?_⟩⟩
      rw [withW_iff]
      have h23 := h19.alloc (.cells #[.int .i64 xs[l.length - 1 - j].2.time, .slice xs[l.length - 1 - j].1.a xs[l.length - 1 - j].1.n xs[l.length - 1 - j].1.c] 33)
      have p0 := h23.cell 0
      have p1 := h23.cell 1
      refine push_tx (x := xs[l.length - 1 - j]) h23.right ⟨p0, p1⟩ (by simp; omega) fun s24 w25 h25 => ?_
      rw [wrap_of (by omega) (by omega)]
      refine ⟨⟨j + 1, by omega, by omega, ?_⟩, by omega⟩
      have hjr : j < xs.reverse.length := by simp; omega
      have : xs.reverse.take (j + 1) = xs.reverse.take j ++ [xs[l.length - 1 - j]] := by
        rw [List.take_succ_eq_append_getElem hjr]
        congr 2
        rw [List.getElem_reverse]
        congr 1; omega
      rw [this]
      exact h25
    · obtain rfl : j = l.length := by omega
      have htk : xs.reverse.take l.length = xs.reverse := List.take_of_length_le (by simp; omega)
      rw [htk] at h19
      have k19 : Keep w w19 := Keep.whole h19.right
      refine loop_i (fun (x : Bool × Int) w' => ∃ i : Nat, x.2 = i ∧ i ≤ l.length ∧ Keep w19 w') (fun x _ => (l.length - x.2).toNat) ⟨0, rfl, by omega, Keep.refl _⟩ ?_
      rintro ⟨y', x⟩ w27 ⟨i, hx, hi, k27⟩
      simp only at hx; subst hx
      dsimp only
      rw [hsn]
      have kw27 := k19.trans k27
      refine bsplit_decide.2 ⟨fun hlt => ?_, fun hge => ?_⟩
      · have hi' : i < l.length := by omega
        obtain ⟨ad, d, ha, g1, _, _⟩ := (txsOn_le (keep_le kw27) hl).2 i hi'
        have htm := order_times hord i hi'
        have e1 : IntKind.i64.wrap ((i : Int) + 1) = ((i + 1 : Nat) : Int) := by rw [wrap_of (by omega) (by omega)]; omega
        refine ⟨by omega, by omega, onP_i ha ⟨l[i].time, g1, ?_⟩⟩
        rw [e1]
        exact bsplit_decide.2 ⟨fun e => absurd e (by omega), fun _ => ⟨⟨i + 1, rfl, by omega, k27⟩, by omega⟩⟩
      · rw [withW_iff]
        have k32 := k27.trans (Keep.drew w27)
        have h32 := k32.sat h19
        have kw := k19.trans k32
        generalize w27.drew = w32 at k32 h32 kw ⊢
        have ht := htake _ kw
        simp only [Nat.sub_zero] at ht
        refine ⟨fun w' => Keep w32 w', Keep.refl _, by omega, by omega, by omega, ?_⟩
        refine order_c ht hbt fun w34 k34 => ⟨k34, ?_⟩
        rw [order_take _ hord]
        refine bsplit_iff.2 ⟨fun _ => ⟨by omega, by omega, by omega, ?_⟩, fun e => (by cases e)⟩
        have hdr := txs_drop (txsOn_le (keep_le (kw.trans k34)) hl) (by omega) hcap (s.n - 1) (s.c - 1) (by omega)
        have e11 : (1 : Int).toNat = 1 := rfl
        rw [hsn] at hdr
        refine order_c hdr ⟨by simp; omega, fun t ht => hb.2 t (List.mem_of_mem_drop ht)⟩ fun w36 k36 => ⟨k34.trans k36, ?_⟩
        rw [order_tail (by omega) hord]
        refine bsplit_iff.2 ⟨fun _ => ?_, fun e => (by cases e)⟩
        have k3236 := k34.trans k36
        have h36 := k3236.sat h32
        have kw36 := kw.trans k3236
        have hturn := own_txs h36 fun y hy => putsOn_le (keep_le kw36) (hxp y (List.mem_reverse.1 hy))
        have hrev : xs.reverse.map Prod.snd = l.reverse := by rw [List.map_reverse, hxs]
        rw [hrev] at hturn
        refine order_c hturn ⟨by simp; omega, fun t ht => hb.2 t (List.mem_reverse.1 ht)⟩ fun w38 k38 => ⟨k3236.trans k38, ?_⟩
        have hfall : orderM 0 l.reverse = false := by
          refine order_fall (i := 0) (by simp; omega) ?_
          rw [List.getElem_reverse, List.getElem_reverse]
          have := order_lt hord (l.length - 2) (by omega)
          have e1 : l.length - 1 - (0 + 1) = l.length - 2 := by omega
          have e2 : l.length - 1 - 0 = l.length - 2 + 1 := by omega
          simp only [e1, e2]
          omega
        rw [hfall]
        refine bsplit_iff.2 ⟨fun _ => ?_, fun e => (by cases e)⟩
        have k3238 := k3236.trans k38
        have kw38 := kw.trans k3238
        obtain ⟨ad0, ha0, z1, z2⟩ := hxc 0 (by omega)
        refine ⟨by omega, by omega, onP_i ha0 ⟨(xs[0].2.time, xs[0].1), fun w' k => ⟨keep_cell (kw.trans k) z1, keep_cell (kw.trans k) z2⟩, ?_⟩⟩
        have hrow : ∀ w', Keep w w' → rowOn (hp w') s (flatT xs) := fun w' k => split_row fun i hi => by
          obtain ⟨ad, a, b, c⟩ := hxc i hi
          exact ⟨ad, a, cellH_le (keep_le k) b, cellH_le (keep_le k) c⟩
        have hx1 : ∀ y ∈ xs ++ [xs[0]], putsOn (hp w32) y.1 y.2.puts := fun y hy => putsOn_le (keep_le kw) (by
          rcases List.mem_append.1 hy with hy | hy
          · exact hxp y hy
          · simp only [List.mem_singleton] at hy; subst hy; exact hxp _ (List.getElem_mem _))
        have hx2 : ∀ y ∈ xs ++ [xs[0]], y.2.puts.length ≤ 10000 := fun y hy => by
          rcases List.mem_append.1 hy with hy | hy
          · exact hxpl y hy
          · simp only [List.mem_singleton] at hy; subst hy; exact hxpl _ (List.getElem_mem _)
        have hx3 : orderM 0 ((xs ++ [xs[0]]).map Prod.snd) = false := by

          refine order_fall (i := xs.length - 1) (by simp; omega) ?_
          have f1 : xs.length - 1 + 1 = xs.length := by omega
          simp only [List.map_append, List.map_cons, List.map_nil, List.getElem_append, List.length_map, f1, Nat.lt_irrefl, dite_false, Nat.sub_self, List.getElem_cons_zero]
          rw [dif_pos (by omega), List.getElem_map, hxg (xs.length - 1) (by omega), hxg 0 (by omega)]
          have a1 := order_lt hord
          have key : ∀ i (hi : i < l.length), l[0].time ≤ l[i].time := by
            intro i
            induction i with
            | zero => intro _; exact Int.le_refl _
            | succ i ih => intro hi; have := ih (by omega); have := a1 i hi; omega
          exact key (xs.length - 1) (by omega)
        -- a copy of the row behind an empty one
        have copy : ∀ (w' : World) (bb e : Nat) (R : HP) (K' : SV → World → Prop), Sat (R * whole w32) w' → (∀ s' w'', Sat (ownS 2 s' (flatT xs) * (R * whole w32)) w'' → K' s' w'') → appendR ⟨some ⟨bb, 0, none⟩, 0, 0⟩ s 2 32 [.int .i64 0, .slice none 0 0] e w' K' := fun w' bb e R K' hw' hk' => by
          have hh : Sat (ownS 2 ⟨some ⟨bb, 0, none⟩, 0, 0⟩ [] * (R * whole w32)) w' := ownS_nil hw' rfl rfl
          have hr := hrow w' (kw.trans (Keep.whole hw'.right))
          refine append_own (news := flatT xs) hh (by rw [flatT_length, hxl, hsn]) (flatT_one xs) (rowOn_cells hr) (fun hno => ?_) (by simp only; omega) (by omega) rfl fun s' w'' _ h'' => hk' s' w'' (by simpa using h'')
          rw [hsa] at hno; cases hno
        have h38 := k3238.sat (sat_whole w32)
        have fin : ∀ w', Keep w32 w' → K true w' := fun w' k => hk w' (kw.trans k)
        obtain ⟨x0, hx0⟩ : ∃ x0, x0 = xs[0] := ⟨_, rfl⟩
        rw [← hx0] at hx1 hx2 hx3 ⊢
        obtain ⟨d0, t0⟩ := x0
        refine ⟨?_, ?_⟩
        · rw [withW_iff]
          have h42 := h38.alloc (.cells #[] 33)
          generalize w38.alloc (.cells #[] 33) = w42 at h42 ⊢
          generalize w38.heap.size = b1 at h42 ⊢
          refine ⟨Keep.whole h42.right, ?_, ?_⟩
          · refine copy w42 b1 33 1 _ (h42.right.eq (one_mul' _).symm) fun s43 w44 h44 => ?_
            refine ⟨Keep.whole h44.right.right, ?_⟩
            rw [withW_iff]
            have h45 := h44.alloc (.cells #[.int .i64 t0.time, .slice d0.a d0.n d0.c] 33)
            have q0 := h45.cell 0
            have q1 := h45.cell 1
            have h46 := h45.right
            generalize w44.alloc (.cells #[.int .i64 t0.time, .slice d0.a d0.n d0.c] 33) = w45 at q0 q1 h46 ⊢
            generalize w44.heap.size = b2 at q0 q1 ⊢
            refine ⟨Keep.whole h46.right.right, ?_⟩
            exact rows_last hx1 (by omega) hx2 hx3 h46 (Keep.refl _) ⟨q0, q1⟩ fin
          · rw [withW_iff]
            have h52 := h42.right.alloc (.cells #[.int .i64 t0.time, .slice d0.a d0.n d0.c] 33)
            generalize w42.alloc (.cells #[.int .i64 t0.time, .slice d0.a d0.n d0.c] 33) = w52 at h52 ⊢
            generalize w42.heap.size = b2 at h52 ⊢
            refine ⟨Keep.whole h52.right, ?_⟩
            refine copy w52 b1 33 (pt b2 (.cells #[.int .i64 t0.time, .slice d0.a d0.n d0.c] 33)) _ h52 fun s43 w44 h44 => ?_
            refine ⟨Keep.whole h44.right.right, ?_⟩
            exact rows_last hx1 (by omega) hx2 hx3 h44 (Keep.refl _) ⟨h44.right.cell 0, h44.right.cell 1⟩ fin
        · rw [withW_iff]
          have h61 := h38.alloc (.cells #[.int .i64 t0.time, .slice d0.a d0.n d0.c] 33)
          generalize w38.alloc (.cells #[.int .i64 t0.time, .slice d0.a d0.n d0.c] 33) = w61 at h61 ⊢
          generalize w38.heap.size = b2 at h61 ⊢
          refine ⟨Keep.whole h61.right, ?_⟩
          rw [withW_iff]
          have h62 := (h61.alloc (.cells #[] 33)).right
          generalize w61.alloc (.cells #[] 33) = w62 at h62 ⊢
          generalize w61.heap.size = b1 at h62 ⊢
          refine ⟨Keep.whole h62.right, ?_⟩
          refine copy w62 b1 33 (pt b2 (.cells #[.int .i64 t0.time, .slice d0.a d0.n d0.c] 33)) _ h62 fun s43 w44 h44 => ?_
          refine ⟨Keep.whole h44.right.right, ?_⟩
          exact rows_last hx1 (by omega) hx2 hx3 h44 (Keep.refl _) ⟨h44.right.cell 0, h44.right.cell 1⟩ fin
theorem rows_row (w : World) (s : SV) (l : List Tx) (h : TxsArg w s l) : Calls Try.prog 6 #[.slice s.a s.n s.c] w fun e w' => e = .returned (.bool true) ∧ RowKit.Below w.heap.size w w' := row_of (rows_c h.2.2 h.1 fun _ k => ⟨rfl, k⟩)
end Go.Proofs.Ytbolgpjcmchfoaa
