/- The reference's functions that only look. -/
import Derived.Test.YtbolgpjcmchfoaaGreatUa
import Derived.Test.YtbolgpjcmchfoaaGreatUb
namespace Go.Proofs.YtbolgpjcmchfoaaGreat
open Go Go.Vc Go.Sl Go.Mo
theorem inc_of {i n : Nat} (h : i < n) (hn : n ≤ 2 ^ 61) : IntKind.i64.wrap ((i : Int) + 1) = ((i + 1 : Nat) : Int) := by rw [wrap_of (by omega) (by omega)]; omega
theorem any_done {α : Type} {l : List α} {p : α → Bool} (h : ∀ j (hj : j < l.length), j < l.length → p l[j] = false) : l.any p = false := by
  rw [List.any_eq_false]
  intro x hx
  obtain ⟨j, hj, rfl⟩ := List.getElem_of_mem hx
  simpa using h j hj hj
theorem any_hit {α : Type} {l : List α} {p : α → Bool} {i : Nat} (hi : i < l.length) (h : p l[i] = true) : l.any p = true := List.any_eq_true.2 ⟨_, List.getElem_mem hi, h⟩
theorem next_all {α : Type} {l : List α} {p : α → Bool} {i : Nat} (hi : i < l.length) (hall : ∀ j (hj : j < l.length), j < i → p l[j] = false) (h : p l[i] = false) : ∀ j (hj : j < l.length), j < i + 1 → p l[j] = false := fun j hj hji => by
  rcases Nat.lt_succ_iff_lt_or_eq.1 hji with h' | h'
  · exact hall j hj h'
  · subst h'; exact h
theorem rmay_c {a : Ext} {w : World} {K : Bool → World → Prop} (hk : ∀ w', Keep w w' → K (may a) w') : c_scarpref11_May a.first a.len w K := by
  refine scarpref11_May_go ?_
  unfold f_scarpref11_May
  have k1 := Keep.alloc w (.cells #[.int .i64 a.first, .int .i64 a.len] 56)
  have hb : Sat (pt w.heap.size (.cells #[.int .i64 a.first, .int .i64 a.len] 56) * 1) (w.alloc (.cells #[.int .i64 a.first, .int .i64 a.len] 56)) := ((sat_whole w).one).alloc _
  rw [withW_iff]
  generalize w.alloc (.cells #[.int .i64 a.first, .int .i64 a.len] 56) = w1 at k1 hb ⊢
  generalize w.heap.size = bx at hb ⊢
  have c0 : w1.cell? ⟨bx, 0, none⟩ = some (.int .i64 a.first) := hb.cell 0
  have c1 : w1.cell? ((⟨bx, 0, none⟩ : Addr).add 1) = some (.int .i64 a.len) := by rw [add_mk]; exact hb.cell 1
  have hk' := hk _ k1
  have no : ∀ h : ¬ (0 ≤ a.first ∧ a.first ≤ 1048576 ∧ 1 ≤ a.len ∧ a.len ≤ 1048576), K false w1 := fun h => by
    have : may a = false := by simp [may]; omega
    rw [this] at hk'; exact hk'
  refine ⟨_, c0, bsplit_decide.2 ⟨fun h1 => ⟨_, c0, bsplit_decide.2 ⟨fun h2 => ⟨_, c1, bsplit_decide.2 ⟨fun h3 => ⟨_, c1, bsplit_decide.2 ⟨fun h4 => ⟨_, c0, _, c1, ?_⟩, fun _ => no (by omega)⟩⟩, fun _ => no (by omega)⟩⟩, fun _ => no (by omega)⟩⟩, fun _ => no (by omega)⟩⟩
  rw [wrap_of (by omega) (by omega)]
  have : may a = decide (a.first ≤ 1048577 - a.len) := by
    by_cases h : a.first ≤ 1048577 - a.len <;> simp [may, h] <;> omega
  rw [← this]; exact hk'
/-- Where a handle stands. -/
theorem rplace_c {b o : Nat} {s : SV} {l : List Int} {k : Int} {w : World} {K : Int → World → Prop} (hc : w.cell? ⟨b, o + 1, none⟩ = some (slv s)) (hl : rowOn (hp w) s (l.map intv)) (hn : s.n = l.length) (h60 : l.length ≤ 2 ^ 60)
    (hno : k ∉ l → K (-1) w) (hyes : ∀ i (hi : i < l.length), l[i] = k → (∀ j (hj : j < l.length), j < i → l[j] ≠ k) → K (i : Int) w) : c_scarpref11_Book_place (some ⟨b, o, none⟩) k w K := by
  refine scarpref11_Book_place_go ?_
  unfold f_scarpref11_Book_place
  refine loop_i (fun (x : Int × Int) w' => ∃ i : Nat, x = (0, (i : Int)) ∧ i ≤ l.length ∧ w' = w ∧ ∀ j (hj : j < l.length), j < i → l[j] ≠ k) (fun x _ => l.length - x.2.toNat) ⟨0, rfl, by omega, rfl, fun j _ h => by omega⟩ ?_
  rintro x w' ⟨i, rfl, hi, rfl, hall⟩
  have hc' : w'.cell? ((⟨b, o, none⟩ : Addr).add 1) = some (.slice s.a s.n s.c) := by rw [add_mk]; exact hc
  rw [onP_some]
  refine ⟨s, hc', bsplit_decide.2 ⟨fun hlt => ?_, fun hge => ?_⟩⟩
  · have hlt' : i < l.length := by simp at hlt; omega
    rw [onP_some]
    refine ⟨s, hc', by omega, hlt, ?_⟩
    have ha : ∃ ad, s.a = some ad := by
      cases h : s.a with
      | none =>
        have := hl.1 h
        rw [List.map_eq_nil_iff] at this
        rw [this] at hlt'; simp at hlt'
      | some ad => exact ⟨ad, rfl⟩
    obtain ⟨ad, ha⟩ := ha
    refine onP_i ha ⟨l[i], ?_, bsplit_decide.2 ⟨fun he => hyes i hlt' he hall, fun he => ?_⟩⟩
    · have := hl.2 ad ha i (by simpa using hlt')
      rw [List.getElem_map] at this
      simpa [cell_hp, intv] using this
    · have e1 := inc_of hlt' (by omega)
      refine ⟨⟨i + 1, by rw [e1], by omega, rfl, fun j hj hji => ?_⟩, by simp only [e1]; omega⟩
      rcases Nat.lt_succ_iff_lt_or_eq.1 hji with h' | h'
      · exact hall j hj h'
      · subst h'; exact he
  · refine hno fun hk => ?_
    obtain ⟨j, hj, e⟩ := List.getElem_of_mem hk
    exact hall j hj (by simp at hge; omega) e
theorem row_int {s : SV} {l : List Int} {h : Heap} (hl : rowOn h s (l.map intv)) {i : Nat} (hi : i < l.length) : ∃ ad, s.a = some ad ∧ cellH h (ad.add (i * 1)) = some (.int .i64 l[i]) := by
  cases ha : s.a with
  | none =>
    have := hl.1 ha
    rw [List.map_eq_nil_iff] at this
    rw [this] at hi; simp at hi
  | some ad =>
    have := hl.2 ad ha i (by simpa using hi)
    rw [List.getElem_map] at this
    exact ⟨ad, rfl, by rw [Nat.mul_one]; exact this⟩
def lowL (l : List Int) (now : Int) : Int := l.foldl (fun a t => min a t) now
theorem rlow_c {b o : Nat} {s : SV} {l : List Int} {now : Int} {w : World} {K : Int → World → Prop} (hc : w.cell? ⟨b, o + 2, none⟩ = some (slv s)) (hl : rowOn (hp w) s (l.map intv)) (hn : s.n = l.length) (h60 : l.length ≤ 2 ^ 60)
    (hk : K (lowL l now) w) : c_scarpref11_Book_Low (some ⟨b, o, none⟩) now w K := by
  refine scarpref11_Book_Low_go ?_
  unfold f_scarpref11_Book_Low
  refine loop_i (fun (x : Int × Int) w' => ∃ i : Nat, x = (lowL (l.take i) now, (i : Int)) ∧ i ≤ l.length ∧ w' = w) (fun x _ => l.length - x.2.toNat) ⟨0, rfl, by omega, rfl⟩ ?_
  rintro x w' ⟨i, rfl, hi, rfl⟩
  have hc' : w'.cell? ((⟨b, o, none⟩ : Addr).add 2) = some (.slice s.a s.n s.c) := by rw [add_mk]; exact hc
  rw [onP_some]
  refine ⟨s, hc', bsplit_decide.2 ⟨fun hlt => ?_, fun hge => ?_⟩⟩
  · have hlt' : i < l.length := by simp at hlt; omega
    rw [onP_some]
    obtain ⟨ad, ha, h1⟩ := row_int hl hlt'
    refine ⟨s, hc', by omega, hlt, onP_i ha ⟨l[i], h1, ?_⟩⟩
    rw [withI_iff]
    have e1 := inc_of hlt' (by omega)
    refine ⟨⟨i + 1, ?_, by omega, rfl⟩, by simp only [e1]; omega⟩
    rw [e1, List.take_succ_eq_append_getElem hlt']
    unfold lowL
    rw [List.foldl_append]
    simp only [List.foldl_cons, List.foldl_nil]
    congr 1
    generalize List.foldl (fun a t => min a t) now (List.take i l) = m
    split <;> omega
  · obtain rfl : i = l.length := by simp at hge; omega
    rw [List.take_length]; exact hk
theorem rmeets_c {b o : Nat} {s : SV} {l : List Ext} {e : Ext} {w : World} {K : Bool → World → Prop} (hc : w.cell? ⟨b, o + 1, none⟩ = some (slv s)) (hl : extsOn (hp w) s l) (h60 : l.length ≤ 2 ^ 60) (ok : ∀ x ∈ l, okX x)
    (hk : ∀ w', Keep w w' → K (may e && l.any fun x => meet x e) w') : c_scarpref11_Set_Meets (some ⟨b, o, none⟩) e.first e.len w K := by
  refine scarpref11_Set_Meets_go ?_
  unfold f_scarpref11_Set_Meets
  have k1 := Keep.alloc w (.cells #[.int .i64 e.first, .int .i64 e.len] 56)
  have hb : Sat (pt w.heap.size (.cells #[.int .i64 e.first, .int .i64 e.len] 56) * 1) (w.alloc (.cells #[.int .i64 e.first, .int .i64 e.len] 56)) := ((sat_whole w).one).alloc _
  rw [withW_iff]
  generalize w.alloc (.cells #[.int .i64 e.first, .int .i64 e.len] 56) = w1 at k1 hb ⊢
  generalize w.heap.size = bx at hb ⊢
  have c0 : w1.cell? ⟨bx, 0, none⟩ = some (.int .i64 e.first) := hb.cell 0
  have c1 : w1.cell? ((⟨bx, 0, none⟩ : Addr).add 1) = some (.int .i64 e.len) := by rw [add_mk]; exact hb.cell 1
  refine ⟨(e.first, e.len), ⟨c0, c1⟩, rmay_c (a := e) fun w4 k4 => bsplit_iff.2 ⟨fun hm => ?_, fun hm => ?_⟩⟩
  · have hm' : may e = false := by simpa using hm
    simp only [hm', Bool.false_and] at hk
    exact hk _ (k1.trans k4)
  · have hm' : may e = true := by simpa using hm
    simp only [hm', Bool.true_and] at hk
    have hok := may_okX hm'
    refine loop_i (fun (x : Bool × Int) w' => ∃ i : Nat, x = (false, (i : Int)) ∧ i ≤ l.length ∧ Keep w4 w' ∧ ∀ j (hj : j < l.length), j < i → meet l[j] e = false) (fun x _ => l.length - x.2.toNat) ⟨0, rfl, by omega, Keep.refl _, fun j _ h => by omega⟩ ?_
    rintro x w' ⟨i, rfl, hi, kw, hall⟩
    have kk := (k1.trans k4).trans kw
    have hc' : w'.cell? ((⟨b, o, none⟩ : Addr).add 1) = some (.slice s.a s.n s.c) := by rw [add_mk]; exact keep_cell kk hc
    have hsn := hl.1
    rw [onP_some]
    refine ⟨s, hc', bsplit_decide.2 ⟨fun hlt => ?_, fun hge => ?_⟩⟩
    · have hlt' : i < l.length := by simp at hlt; omega
      obtain ⟨ad, ha, h1, h2⟩ := (extsOn_le (keep_le (kk.trans (Keep.drew w'))) hl).2 i hlt'
      have hx := ok _ (List.getElem_mem hlt')
      unfold okX at hx hok
      have k10 := kw.trans (Keep.drew w')
      have hc2 : w'.drew.cell? ((⟨b, o, none⟩ : Addr).add 1) = some (.slice s.a s.n s.c) := keep_cell (Keep.drew w') hc'
      have e1 := inc_of hlt' (by omega)
      have nx : meet l[i] e = false → (∃ i' : Nat, (false, IntKind.i64.wrap ((i : Int) + 1)) = (false, (i' : Int)) ∧ i' ≤ l.length ∧ Keep w4 w'.drew ∧ ∀ j (hj : j < l.length), j < i' → meet l[j] e = false) ∧ l.length - (IntKind.i64.wrap ((i : Int) + 1)).toNat < l.length - (i : Int).toNat :=
        fun hm => ⟨⟨i + 1, by rw [e1], by omega, k10, next_all (p := fun x => meet x e) hlt' hall hm⟩, by simp only [e1]; omega⟩
      rw [withW_iff]
      refine ⟨_, keep_cell (k4.trans k10) c0, ?_⟩
      rw [onP_some]
      refine ⟨s, hc2, by omega, hlt, onP_i ha ⟨_, h1, ?_⟩⟩
      rw [onP_some]
      refine ⟨s, hc2, by omega, hlt, onP_i ha ⟨_, h2, ?_⟩⟩
      rw [wrap_of (by omega) (by omega)]
      refine bsplit_decide.2 ⟨fun q1 => ?_, fun q1 => nx (by simp [meet]; omega)⟩
      rw [onP_some]
      refine ⟨s, hc2, by omega, hlt, onP_i ha ⟨_, h1, _, keep_cell (k4.trans k10) c0, _, keep_cell (k4.trans k10) c1, ?_⟩⟩
      rw [wrap_of (by omega) (by omega)]
      refine bsplit_decide.2 ⟨fun q2 => ?_, fun q2 => nx (by simp [meet]; omega)⟩
      have := hk _ (kk.trans (Keep.drew w'))
      rw [any_hit (p := fun x => meet x e) hlt' (by simp [meet]; omega)] at this
      exact this
    · obtain rfl : i = l.length := by simp at hge; omega
      have := hk _ kk
      rw [any_done hall] at this
      exact this
theorem rhas_c {b o : Nat} {s : SV} {S : XSet} {lba : Int} {w : World} {K : Bool → World → Prop} (hc : w.cell? ⟨b, o + 1, none⟩ = some (slv s)) (hl : extsOn (hp w) s S.l) (h60 : S.l.length ≤ 2 ^ 60) (ok : ∀ x ∈ S.l, okX x)
    (hk : ∀ w', Keep w w' → K (XSet.has S lba) w') : c_scarpref11_Set_Has (some ⟨b, o, none⟩) lba w K :=
  scarpref11_Set_Has_go (rmeets_c (e := ⟨lba, 1⟩) hc hl h60 ok hk)
theorem ragainst_c {b o : Nat} {s d : SV} {S : XSet} {t : Tx} {w : World} {K : Bool → World → Prop} (hc : w.cell? ⟨b, o + 1, none⟩ = some (slv s)) (hl : extsOn (hp w) s S.l) (h60 : S.l.length ≤ 2 ^ 60) (ok : ∀ x ∈ S.l, okX x)
    (ht : putsOn (hp w) d t.puts) (hn : t.puts.length ≤ 2 ^ 60) (hk : ∀ w', Keep w w' → K (againstM t S) w') : c_scarpref11_Against t.time d (some ⟨b, o, none⟩) w K := by
  refine scarpref11_Against_go ?_
  unfold f_scarpref11_Against
  have k1 := Keep.alloc w (.cells #[.int .i64 t.time, .slice d.a d.n d.c] 70)
  have hb : Sat (pt w.heap.size (.cells #[.int .i64 t.time, .slice d.a d.n d.c] 70) * 1) (w.alloc (.cells #[.int .i64 t.time, .slice d.a d.n d.c] 70)) := ((sat_whole w).one).alloc _
  rw [withW_iff]
  generalize w.alloc (.cells #[.int .i64 t.time, .slice d.a d.n d.c] 70) = w1 at k1 hb ⊢
  generalize w.heap.size = bx at hb ⊢
  have c1 : w1.cell? ((⟨bx, 0, none⟩ : Addr).add 1) = some (.slice d.a d.n d.c) := by rw [add_mk]; exact hb.cell 1
  refine loop_i (fun (x : Bool × Int) w' => ∃ i : Nat, x = (false, (i : Int)) ∧ i ≤ t.puts.length ∧ Keep w1 w' ∧ ∀ j (hj : j < t.puts.length), j < i → S.has t.puts[j].lba = false) (fun x _ => t.puts.length - x.2.toNat) ⟨0, rfl, by omega, Keep.refl _, fun j _ h => by omega⟩ ?_
  rintro x w' ⟨i, rfl, hi, kw, hall⟩
  have kk := k1.trans kw
  have hsn := ht.1
  refine ⟨d, keep_cell kw c1, bsplit_decide.2 ⟨fun hlt => ?_, fun hge => ?_⟩⟩
  · have hlt' : i < t.puts.length := by simp at hlt; omega
    obtain ⟨ad, q, ha, h1, _, _⟩ := (putsOn_le (keep_le kk) ht).2 i hlt'
    refine ⟨d, keep_cell kw c1, by omega, hlt, onP_i ha ⟨_, h1, rhas_c (S := S) (keep_cell kk hc) (extsOn_le (keep_le kk) hl) h60 ok fun w'' k2 => bsplit_iff.2 ⟨fun hh => ?_, fun hh => ?_⟩⟩⟩
    · have := hk _ (kk.trans k2)
      unfold againstM at this
      rw [any_hit (p := fun x => S.has x.lba) hlt' hh] at this
      exact this
    · have e1 := inc_of hlt' (by omega)
      exact ⟨⟨i + 1, by rw [e1], by omega, kw.trans k2, next_all (p := fun x => S.has x.lba) hlt' hall hh⟩, by simp only [e1]; omega⟩
  · obtain rfl : i = t.puts.length := by simp at hge; omega
    have := hk _ kk
    unfold againstM at this
    rw [any_done hall] at this
    exact this
/-- Versions in a row, as they read. -/
def versOn (h : Heap) (s : SV) (l : List (Int × Put)) : Prop := s.n = l.length ∧ ∀ i (hi : i < l.length), ∃ ad, s.a = some ad ∧ cellH h (ad.add (i * 3)) = some (.int .i64 l[i].1) ∧ cellH h ((ad.add (i * 3)).add 1) = some (.int .i64 l[i].2.lba)
theorem KVers.on {F : Heap → Prop} {s : SV} {l : List (Int × Put)} {w : World} (h : KVers F s l) (hh : F (hp w)) : versOn (hp w) s l := ⟨h.n, fun i hi => by
  obtain ⟨ad, d, a, b, c, _⟩ := h.get hh hi
  exact ⟨ad, a, b, c⟩⟩
theorem KExts.on {F : Heap → Prop} {s : SV} {l : List Ext} {w : World} (h : KExts F s l) (hh : F (hp w)) : extsOn (hp w) s l := ⟨h.n, fun i hi => by
  obtain ⟨ad, a, b, c⟩ := h.get hh hi
  exact ⟨ad, a, b, c⟩⟩
def validR (vs : List (Int × Put)) (q : List Tx) (at_ : Int) (r s : XSet) : Int :=
  if s.l = [] then 0 else if (vs.any fun v => decide (at_ < v.2.lba) && (r.has v.1 || s.has v.1)) || (q.any fun t => againstM t r || againstM t s) then 8 else 0
theorem rvalid_c {bm br bs orr os : Nat} {sv sq sr ss : SV} {vs : List (Int × Put)} {q : List Tx} {at_ : Int} {r s : XSet} {w : World} {K : Int → World → Prop} (hm : w.cell? ⟨bm, 1, none⟩ = some (slv sv)) (hv : versOn (hp w) sv vs) (hvn : vs.length ≤ 2 ^ 60)
    (hr : w.cell? ⟨br, orr + 1, none⟩ = some (slv sr)) (hrl : extsOn (hp w) sr r.l) (hrn : r.l.length ≤ 2 ^ 60) (okr : ∀ x ∈ r.l, okX x) (hs : w.cell? ⟨bs, os + 1, none⟩ = some (slv ss)) (hsl : extsOn (hp w) ss s.l) (hsn : s.l.length ≤ 2 ^ 60) (oks : ∀ x ∈ s.l, okX x)
    (hq : txsOn (hp w) sq q) (hqn : q.length ≤ 2 ^ 60 ∧ ∀ t ∈ q, t.puts.length ≤ 2 ^ 60) (hk : ∀ w', Keep w w' → K (validR vs q at_ r s) w') : c_scarpref11_Valid (some ⟨bm, 0, none⟩) sq at_ (some ⟨br, orr, none⟩) (some ⟨bs, os, none⟩) w K := by
  refine scarpref11_Valid_go ?_
  unfold f_scarpref11_Valid
  rw [onP_some]
  refine ⟨ss, by rw [add_mk]; exact hs, bsplit_decide.2 ⟨fun h0 => ?_, fun h0 => ?_⟩⟩
  · have : s.l = [] := by rw [← List.length_eq_zero_iff]; have := hsl.1; omega
    have hk' := hk _ (Keep.refl w)
    unfold validR at hk'
    rw [if_pos this] at hk'; exact hk'
  have hne : s.l ≠ [] := fun h => by have := hsl.1; rw [h] at this; simp at this; omega
  have hval : validR vs q at_ r s = if (vs.any fun v => decide (at_ < v.2.lba) && (r.has v.1 || s.has v.1)) || (q.any fun t => againstM t r || againstM t s) then 8 else 0 := by unfold validR; rw [if_neg hne]
  have yes1 : ∀ w', Keep w w' → (vs.any fun v => decide (at_ < v.2.lba) && (r.has v.1 || s.has v.1)) = true → K 8 w' := fun w' kw h => by
    have := hk w' kw; rw [hval, h, Bool.true_or] at this; exact this
  have yes2 : ∀ w', Keep w w' → (q.any fun t => againstM t r || againstM t s) = true → K 8 w' := fun w' kw h => by
    have := hk w' kw; rw [hval, h, Bool.or_true] at this; exact this
  refine loop_i (fun (x : Int × Int) w' => ∃ i : Nat, x = (0, (i : Int)) ∧ i ≤ vs.length ∧ Keep w w' ∧ ∀ j (hj : j < vs.length), j < i → (decide (at_ < vs[j].2.lba) && (r.has vs[j].1 || s.has vs[j].1)) = false) (fun x _ => vs.length - x.2.toNat) ⟨0, rfl, by omega, Keep.refl _, fun j _ h => by omega⟩ ?_
  rintro x w' ⟨i, rfl, hi, kw, hall⟩
  have hm' : ∀ {w'}, Keep w w' → w'.cell? ((⟨bm, 0, none⟩ : Addr).add 1) = some (.slice sv.a sv.n sv.c) := fun kw => by rw [add_mk]; exact keep_cell kw hm
  have hvn' := hv.1
  rw [onP_some]
  refine ⟨sv, hm' kw, bsplit_decide.2 ⟨fun hlt => ?_, fun hge => ?_⟩⟩
  · have hlt' : i < vs.length := by simp at hlt; omega
    obtain ⟨ad, ha, h1, h2⟩ := hv.2 i hlt'
    have e1 := inc_of hlt' (by omega)
    have nx : ∀ w'', Keep w w'' → (decide (at_ < vs[i].2.lba) && (r.has vs[i].1 || s.has vs[i].1)) = false → (∃ i' : Nat, ((0 : Int), IntKind.i64.wrap ((i : Int) + 1)) = (0, (i' : Int)) ∧ i' ≤ vs.length ∧ Keep w w'' ∧ ∀ j (hj : j < vs.length), j < i' → (decide (at_ < vs[j].2.lba) && (r.has vs[j].1 || s.has vs[j].1)) = false) ∧ vs.length - (IntKind.i64.wrap ((i : Int) + 1)).toNat < vs.length - (i : Int).toNat :=
      fun w'' k h => ⟨⟨i + 1, by rw [e1], by omega, k, next_all (p := fun v => decide (at_ < v.2.lba) && (r.has v.1 || s.has v.1)) hlt' hall h⟩, by simp only [e1]; omega⟩
    rw [onP_some]
    refine ⟨sv, hm' kw, by omega, hlt, onP_i ha ⟨_, keep_cell kw h2, bsplit_decide.2 ⟨fun hat => ?_, fun hat => nx _ kw (by simp [hat])⟩⟩⟩
    rw [onP_some]
    refine ⟨sv, hm' kw, by omega, hlt, onP_i ha ⟨_, keep_cell kw h1, rhas_c (S := r) (keep_cell kw hr) (extsOn_le (keep_le kw) hrl) hrn okr fun w2 k2 => bsplit_iff.2 ⟨fun hh => yes1 _ (kw.trans k2) (any_hit (p := fun v => decide (at_ < v.2.lba) && (r.has v.1 || s.has v.1)) hlt' (by simp [hat, hh])), fun hh => ?_⟩⟩⟩
    have kw2 := kw.trans k2
    rw [onP_some]
    refine ⟨sv, hm' kw2, by omega, hlt, onP_i ha ⟨_, keep_cell kw2 h1, rhas_c (S := s) (keep_cell kw2 hs) (extsOn_le (keep_le kw2) hsl) hsn oks fun w3 k3 => bsplit_iff.2 ⟨fun hh2 => yes1 _ (kw2.trans k3) (any_hit (p := fun v => decide (at_ < v.2.lba) && (r.has v.1 || s.has v.1)) hlt' (by simp [hat, hh2])), fun hh2 => nx _ (kw2.trans k3) (by simp [hh, hh2])⟩⟩⟩
  · obtain rfl : i = vs.length := by simp at hge; omega
    have hno := any_done (p := fun v : Int × Put => decide (at_ < v.2.lba) && (r.has v.1 || s.has v.1)) hall
    refine loop_i (fun (x : Int × Int) w' => ∃ i : Nat, x = (0, (i : Int)) ∧ i ≤ q.length ∧ Keep w w' ∧ ∀ j (hj : j < q.length), j < i → (againstM q[j] r || againstM q[j] s) = false) (fun x _ => q.length - x.2.toNat) ⟨0, rfl, by omega, kw, fun j _ h => by omega⟩ ?_
    rintro x w'' ⟨i, rfl, hi, kw, hall2⟩
    have hqn' := hq.1
    refine bsplit_decide.2 ⟨fun hlt => ?_, fun hge => ?_⟩
    · have hlt' : i < q.length := by simp at hlt; omega
      obtain ⟨ad, d, ha, h1, h2, h3⟩ := hq.2 i hlt'
      have hpn := hqn.2 _ (List.getElem_mem hlt')
      refine ⟨by omega, hlt, onP_i ha ⟨(q[i].time, d), ⟨keep_cell kw h1, keep_cell kw h2⟩, ragainst_c (S := r) (keep_cell kw hr) (extsOn_le (keep_le kw) hrl) hrn okr (putsOn_le (keep_le kw) h3) hpn fun w2 k2 => bsplit_iff.2 ⟨fun hh => yes2 _ (kw.trans k2) (any_hit (p := fun t => againstM t r || againstM t s) hlt' (by simp [hh])), fun hh => ?_⟩⟩⟩
      have kw2 := kw.trans k2
      refine ⟨by omega, hlt, onP_i ha ⟨(q[i].time, d), ⟨keep_cell kw2 h1, keep_cell kw2 h2⟩, ragainst_c (S := s) (keep_cell kw2 hs) (extsOn_le (keep_le kw2) hsl) hsn oks (putsOn_le (keep_le kw2) h3) hpn fun w3 k3 => bsplit_iff.2 ⟨fun hh2 => yes2 _ (kw2.trans k3) (any_hit (p := fun t => againstM t r || againstM t s) hlt' (by simp [hh2])), fun hh2 => ?_⟩⟩⟩
      have e1 := inc_of hlt' (by omega)
      exact ⟨⟨i + 1, by rw [e1], by omega, kw2.trans k3, next_all (p := fun t => againstM t r || againstM t s) hlt' hall2 (by simp [hh, hh2])⟩, by simp only [e1]; omega⟩
    · obtain rfl : i = q.length := by simp at hge; omega
      have := hk _ kw
      rw [hval, hno, any_done (p := fun t => againstM t r || againstM t s) hall2] at this
      exact this
theorem rform_c {s : SV} {l : List Tx} {w : World} {K : Int → World → Prop} (hl : txsOn (hp w) s l) (hn : l.length ≤ 2 ^ 20 ∧ ∀ t ∈ l, t.puts.length ≤ 2 ^ 20) (hk : K (formL l 0 0) w) : c_scarpref11_Form s w K := by
  refine scarpref11_Form_go ?_
  unfold f_scarpref11_Form
  have hsn := hl.1
  generalize hf0 : formL l 0 0 = res at hk
  refine loop_i (fun (x : Int × Int) w' => ∃ i : Nat, x.2 = (i : Int) ∧ i ≤ l.length ∧ w' = w ∧ 0 ≤ x.1 ∧ x.1 ≤ (i * 2 ^ 20 : Nat) ∧ formL (l.drop i) x.1 i = res) (fun x _ => l.length - x.2.toNat) ⟨0, rfl, by omega, rfl, by omega, by omega, hf0⟩ ?_
  rintro ⟨p, x⟩ w' ⟨i, hx, hi, rfl, hp0, hp1, hf⟩
  simp only at hx hp0 hp1 hf; subst hx
  refine bsplit_decide.2 ⟨fun hlt => ?_, fun hge => ?_⟩
  · have hlt' : i < l.length := by simp at hlt; omega
    obtain ⟨ad, d, ha, h1, h2, h3⟩ := hl.2 i hlt'
    have hpn := hn.2 _ (List.getElem_mem hlt')
    have hdn := h3.1
    rw [List.drop_eq_getElem_cons hlt'] at hf
    unfold formL at hf
    refine bsplit_decide.2 ⟨fun h8 => ⟨by omega, hlt, onP_i ha ⟨d, h2, ?_⟩⟩, fun h8 => ?_⟩
    · rw [withI_iff]
      have e1 := inc_of hlt' (by omega)
      have hb : (i * 2 ^ 20 : Nat) ≤ 2 ^ 40 := by
        calc i * 2 ^ 20 ≤ 2 ^ 20 * 2 ^ 20 := Nat.mul_le_mul_right _ (by omega)
          _ = 2 ^ 40 := by decide
      have e2 : IntKind.i64.wrap (p + ((d.n : Nat) : Int)) = p + (l[i].puts.length : Nat) := by rw [wrap_of (by omega) (by omega), hdn]
      have nx : formL (l.drop (i + 1)) (p + (l[i].puts.length : Nat)) ((i : Int) + 1) = res → (∃ i' : Nat, IntKind.i64.wrap ((i : Int) + 1) = (i' : Int) ∧ i' ≤ l.length ∧ w' = w' ∧ 0 ≤ IntKind.i64.wrap (p + ((d.n : Nat) : Int)) ∧ IntKind.i64.wrap (p + ((d.n : Nat) : Int)) ≤ (i' * 2 ^ 20 : Nat) ∧ formL (l.drop i') (IntKind.i64.wrap (p + ((d.n : Nat) : Int))) i' = res) ∧ l.length - (IntKind.i64.wrap ((i : Int) + 1)).toNat < l.length - (i : Int).toNat := fun h => by
        refine ⟨⟨i + 1, e1, by omega, rfl, by rw [e2]; omega, by rw [e2, Nat.succ_mul]; omega, ?_⟩, by simp only [e1]; omega⟩
        rw [e2]; simpa using h
      refine bsplit_decide.2 ⟨fun q1 => bsplit_decide.2 ⟨fun q2 => ?_, fun q2 => ?_⟩, fun q1 => ?_⟩
      · rw [e2] at q2
        rw [if_pos (by omega)] at hf
        rw [hf]; exact hk
      · rw [e2] at q2
        rw [if_neg (by omega)] at hf
        exact nx hf
      · rw [if_neg (by omega)] at hf
        exact nx hf
    · rw [if_pos (by omega)] at hf
      rw [hf]; exact hk
  · obtain rfl : i = l.length := by simp at hge; omega
    rw [List.drop_length] at hf
    unfold formL at hf
    rw [hf]; exact hk
end Go.Proofs.YtbolgpjcmchfoaaGreat
