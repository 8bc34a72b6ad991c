/- Contracts of what law16's statements call beside the program: sizes, the reference's sets, orders, the example that all run. -/
import Derived.Test.YtbolgpjcmchfoaaE
import Derived.Test.YtbolgpjcmchfoaaF2
namespace Go.Proofs.Ytbolgpjcmchfoaa
open Go Go.Vc Go.Sl Go.Mo
theorem txs_size {l : List Tx} {s : SV} {top : Int} {w : World} {K : Int → World → Prop} (hs : txsOn (hp w) s l) (ht : 0 ≤ top ∧ top ≤ 2 ^ 30) (hk : ∀ r w', Keep w w' → 0 ≤ r → r ≤ 1099511627776 → (r ≤ top → (l.length : Int) ≤ top ∧ ∀ x ∈ l, (x.puts.length : Int) ≤ top) → K r w') : c_scarpalike_Txs s top w K := by
  refine scarpalike_Txs_go ?_
  unfold f_scarpalike_Txs
  have hsn := hs.1
  rw [withW_iff]
  have h1 := (sat_whole w).alloc (.cells #[.int .i64 ((s.n : Nat) : Int)] 3)
  have k1 := Keep.alloc w (.cells #[.int .i64 ((s.n : Nat) : Int)] 3)
  generalize w.alloc (.cells #[.int .i64 ((s.n : Nat) : Int)] 3) = w1 at h1 k1 ⊢
  refine sum_c (l := [((s.n : Nat) : Int)]) (ints_one h1 rfl) (by simp) (by omega) (by simp) ?_
  have hb := sumM_bounds [((s.n : Nat) : Int)] 0 (by omega) (by omega) (by simp)
  have he := sumM_each [((s.n : Nat) : Int)] 0 top (by omega) (by omega) (by simp)
  refine loop_i (fun (x : Int × Int) w' => ∃ i : Nat, x.2 = i ∧ i ≤ l.length ∧ Keep w w' ∧ (0 ≤ x.1 ∧ x.1 ≤ 1099511627776) ∧ (x.1 ≤ top → (l.length : Int) ≤ top ∧ ∀ y ∈ l.take i, (y.puts.length : Int) ≤ top)) (fun x _ => (l.length - x.2).toNat)
    ⟨0, rfl, by omega, k1, by simpa using hb, fun h => ⟨by have := he h (by omega) _ (List.mem_singleton.2 rfl); omega, by simp⟩⟩ ?_
  rintro ⟨m, x⟩ w5 ⟨i, hx, hi, kw, hm, hf⟩
  simp only at hx hm hf; subst hx
  dsimp only
  rw [hsn]
  refine bsplit_decide.2 ⟨fun hlt => ?_, fun hge => ?_⟩
  · have hi' : i < l.length := by omega
    refine bsplit_decide.2 ⟨fun hle => ?_, fun hgt => hk _ _ kw hm.1 hm.2 fun h => absurd h hgt⟩
    obtain ⟨ad, d, ha, _, hc2, hd⟩ := (txsOn_le (keep_le kw) hs).2 i hi'
    refine ⟨by omega, by omega, onP_i ha ⟨d, hc2, ?_⟩⟩
    refine puts_size hd ht fun r w10 k10 r0 r1 hrs => ?_
    rw [withW_iff]
    have h2 := (sat_whole w10).alloc (.cells #[.int .i64 r] 3)
    have k2 := Keep.alloc w10 (.cells #[.int .i64 r] 3)
    generalize w10.alloc (.cells #[.int .i64 r] 3) = w6 at h2 k2 ⊢
    refine sum_c (l := [r]) (ints_one h2 rfl) (by simp) hm (by simpa using r0) ?_
    have hb' := sumM_bounds [r] m hm.1 hm.2 (by simpa using r0)
    have he' := sumM_each [r] m top hm.1 hm.2 (by simpa using r0)
    have e1 : IntKind.i64.wrap ((i : Int) + 1) = ((i + 1 : Nat) : Int) := by rw [wrap_of (by omega) (by omega)]; omega
    refine ⟨⟨i + 1, e1, by omega, kw.trans (k10.trans k2), by omega, fun h => ?_⟩, by rw [e1]; omega⟩
    obtain ⟨f1, f2⟩ := hf (by omega)
    refine ⟨f1, fun y hy => ?_⟩
    rw [List.take_succ_eq_append_getElem hi'] at hy
    rcases List.mem_append.1 hy with hy | hy
    · exact f2 y hy
    · simp only [List.mem_singleton] at hy; subst hy
      have := he' h (by omega) _ (List.mem_singleton.2 rfl)
      exact (hrs this).1
  · obtain rfl : i = l.length := by omega
    rw [List.take_length] at hf
    exact hk _ _ kw hm.1 hm.2 hf
theorem txsOn_none {h : Heap} : txsOn h ⟨none, 0, 0⟩ [] := ⟨rfl, fun i hi => by simp at hi⟩
theorem extsOn_none {h : Heap} : extsOn h ⟨none, 0, 0⟩ [] := ⟨rfl, fun i hi => by simp at hi⟩
theorem small_c {a b r v : SV} {la lb : List Tx} {w : World} {K : Bool → World → Prop} (ha : txsOn (hp w) a la) (hb : txsOn (hp w) b lb) (hk : ∀ y w', Keep w w' → (y = true → (la.length ≤ 10000 ∧ ∀ x ∈ la, x.puts.length ≤ 10000) ∧ (lb.length ≤ 10000 ∧ ∀ x ∈ lb, x.puts.length ≤ 10000) ∧ r.n ≤ 60 ∧ v.n ≤ 60) → K y w') : c_scarplaw16_small a b r v w K := by
  refine scarplaw16_small_go ?_
  unfold f_scarplaw16_small
  refine txs_size ha (by omega) fun x1 w2 k2 p0 p1 hp1 => ?_
  refine txs_size (txsOn_le (keep_le k2) hb) (by omega) fun x3 w4 k4 q0 q1 hq1 => ?_
  rw [withW_iff]
  have h2 := (sat_whole w4).alloc (.cells #[.int .i64 x3] 3)
  have k5 := Keep.alloc w4 (.cells #[.int .i64 x3] 3)
  generalize w4.alloc (.cells #[.int .i64 x3] 3) = w5 at h2 k5 ⊢
  have kk := k2.trans (k4.trans k5)
  refine sum_c (l := [x3]) (ints_one h2 rfl) (by simp) ⟨p0, p1⟩ (by simpa using q0) ?_
  have hb' := sumM_bounds [x3] x1 p0 p1 (by simpa using q0)
  have he' := sumM_each [x3] x1 10000 p0 p1 (by simpa using q0)
  refine bsplit_decide.2 ⟨fun h => bsplit_decide.2 ⟨fun h2 => hk _ _ kk fun hy => ?_, fun _ => hk _ _ kk fun hy => (by cases hy)⟩, fun _ => hk _ _ kk fun hy => (by cases hy)⟩
  have e1 := hp1 (by omega)
  have e2 := hq1 (he' h (by omega) _ (List.mem_singleton.2 rfl))
  have e3 : ((v.n : Nat) : Int) ≤ 60 := by simpa using hy
  exact ⟨⟨by omega, fun x hx => by have := e1.2 x hx; omega⟩, ⟨by omega, fun x hx => by have := e2.2 x hx; omega⟩, by omega, by omega⟩
/-! ### The reference's sets -/
theorem rmay_c {e : Ext} {w : World} {K : Bool → World → Prop} (hk : ∀ w', Keep w w' → K (may e) w') : c_scarpref11_May e.first e.len w K := by
  refine scarpref11_May_go ?_
  unfold f_scarpref11_May
  rw [withW_iff]
  have h2 := (sat_whole w).alloc (.cells #[.int .i64 e.first, .int .i64 e.len] 44)
  have c0 := h2.cell 0
  have c1 := h2.cell 1
  have k2 : Keep w (w.alloc (.cells #[.int .i64 e.first, .int .i64 e.len] 44)) := Keep.alloc _ _
  have hk' := hk _ k2
  generalize w.alloc (.cells #[.int .i64 e.first, .int .i64 e.len] 44) = w1 at c0 c1 hk' ⊢
  unfold may at hk'
  refine ⟨e.first, c0, bsplit_decide.2 ⟨fun a1 => ⟨e.first, c0, bsplit_decide.2 ⟨fun a2 => ⟨e.len, by rw [add_mk]; exact c1, bsplit_decide.2 ⟨fun a3 => ⟨e.len, by rw [add_mk]; exact c1, bsplit_decide.2 ⟨fun a4 => ⟨e.first, c0, e.len, by rw [add_mk]; exact c1, ?_⟩, fun a4 => ?_⟩⟩, fun a3 => ?_⟩⟩, fun a2 => ?_⟩⟩, fun a1 => ?_⟩⟩
  · rw [wrap_of (by omega) (by omega)]
    have : decide (e.first ≤ 1048577 - e.len) = decide (e.first + e.len ≤ 1048577) := by rw [decide_eq_decide]; omega
    rw [this]
    simpa [a1, a2, a3, a4] using hk'
  · simpa [a1, a2, a3, a4] using hk'
  · simpa [a1, a2, a3] using hk'
  · simpa [a1, a2] using hk'
  · simpa [a1] using hk'
/-- One more extent in the reference's row: how long it is. -/
theorem rput_c {s : SV} {l : List Ext} {e : Ext} {R : HP} {w : World} {K : SV → World → Prop} (h : Sat R w) (hl : ∀ w', Sat R w' → extsOn (hp w') s l) (hn : l.length ≤ 2 ^ 30) (okl : ∀ x ∈ l, okX x) (oke : okX e)
    (hk : ∀ s' out w', 1 ≤ out.length → out.length ≤ l.length + 1 → (∀ x ∈ out, okX x) → Sat (extsA s' out * R) w' → K s' w') : c_scarpref11_put s e.first e.len w K := by
  refine scarpref11_put_go ?_
  unfold f_scarpref11_put
  rw [withW_iff]
  have h2 := h.alloc (.cells #[.int .i64 e.first, .int .i64 e.len] 44)
  have c0 := h2.cell 0
  have c1 := h2.cell 1
  have h3 := h2.right
  generalize w.alloc (.cells #[.int .i64 e.first, .int .i64 e.len] 44) = w1 at c0 c1 h3 ⊢
  generalize w.heap.size = eb at c0 c1 ⊢
  unfold okX at oke
  have hsn := (hl _ h).1
  refine ⟨e.first, c0, e.first, c0, e.len, by rw [add_mk]; exact c1, ?_⟩
  refine loop_i (fun (x : SV × Bool × Int × Int × Int) w' => ∃ (i : Nat) (out : List Ext), x.2.2.2.2 = i ∧ i ≤ l.length ∧ (0 ≤ x.2.2.1 ∧ x.2.2.1 < x.2.2.2.1 ∧ x.2.2.2.1 ≤ 1048577) ∧ (∀ y ∈ out, okX y) ∧ out.length ≤ i + (if x.2.1 then 1 else 0) ∧ (x.2.1 = true → 1 ≤ out.length) ∧ Sat (extsA x.1 out * R) w') (fun x _ => (l.length - x.2.2.2.2).toNat)
    ⟨0, [], rfl, by omega, by rw [wrap_of (by omega) (by omega)]; simp only; omega, by simp, by simp, by simp, ownS_nil h3 rfl rfl⟩ ?_
  rintro ⟨so, dn, fs, en, x⟩ w6 ⟨i, out, hx, hi, hfe, hok, hlen, hdn, hw⟩
  simp only at hx hfe hlen hdn hw; subst hx
  dsimp only
  rw [hsn]
  have hsz : out.length ≤ i + 1 := by revert hlen; cases dn <;> simp <;> omega
  refine bsplit_decide.2 ⟨fun hlt => ?_, fun hge => ?_⟩
  · have hi' : i < l.length := by omega
    obtain ⟨ad, ha, g1, g2⟩ := (hl _ hw.right).2 i hi'
    have okx := okl _ (List.getElem_mem hi')
    unfold okX at okx
    generalize hxx : l[i] = y at g1 g2 okx
    refine ⟨by omega, by omega, onP_i ha ⟨(y.first, y.len), ⟨g1, g2⟩, ?_⟩⟩
    refine box2 hw fun w11 k11 h11 => ?_
    have d := (objA_cells h11).1
    generalize w6.heap.size = yb at h11 d ⊢
    have e1 : IntKind.i64.wrap ((i : Int) + 1) = ((i + 1 : Nat) : Int) := by rw [wrap_of (by omega) (by omega)]; omega
    refine ⟨y.first, d 0, y.len, by rw [add_mk]; exact d 1, ?_⟩
    rw [wrap_of (x := y.first + y.len) (by omega) (by omega)]
    have hA : ∀ w', Sat (objA (some ⟨yb, 0, none⟩) [.int .i64 y.first, .int .i64 y.len] * (extsA so out * R)) w' → Sat (extsA so out * (objA (some ⟨yb, 0, none⟩) [.int .i64 y.first, .int .i64 y.len] * R)) w' := fun w' h => h.eq (by ac_rfl)
    refine bsplit_decide.2 ⟨fun b1 => ?_, fun b1 => ⟨y.first, d 0, bsplit_decide.2 ⟨fun b2 => ?_, fun b2 => ?_⟩⟩⟩
    · refine ⟨(y.first, y.len), ⟨d 0, by rw [add_mk]; exact d 1⟩, ?_⟩
      rw [withW_iff]
      have h15 := (hA _ h11).alloc (.cells #[.int .i64 y.first, .int .i64 y.len] 44)
      have p0 := h15.cell 0
      have p1 := h15.cell 1
      refine exts_push (x := y) h15.right p0 p1 (by omega) fun s16 w17 h17 => ?_
      rw [withI_iff]
      refine ⟨⟨i + 1, out ++ [y], e1, by omega, hfe, fun z hz => ?_, by simp only [List.length_append, List.length_singleton]; omega, fun hd' => by simp, (h17.eq (by ac_rfl : _ = objA (some ⟨yb, 0, none⟩) [.int .i64 y.first, .int .i64 y.len] * (extsA s16 (out ++ [y]) * R))).right⟩, by rw [e1]; omega⟩
      rcases List.mem_append.1 hz with hz | hz
      · exact hok z hz
      · simp only [List.mem_singleton] at hz; subst hz; exact okx
    · refine bsplit_iff.2 ⟨fun hd' => ?_, fun hd' => ?_⟩
      · have hdf : dn = false := by simpa using hd'
        subst hdf
        rw [withW_iff, wrap_of (x := en - fs) (by omega) (by omega)]
        have h20 := (hA _ h11).alloc (.cells #[.int .i64 fs, .int .i64 (en - fs)] 44)
        have p0 := h20.cell 0
        have p1 := h20.cell 1
        simp only [Bool.false_eq_true, if_false] at hlen
        refine exts_push (x := ⟨fs, en - fs⟩) h20.right p0 p1 (by omega) fun s21 w22 h22 => ?_
        have d' := (objA_cells h22.right).1
        refine ⟨(y.first, y.len), ⟨d' 0, by rw [add_mk]; exact d' 1⟩, ?_⟩
        rw [withW_iff]
        have h24 := h22.alloc (.cells #[.int .i64 y.first, .int .i64 y.len] 44)
        have q0 := h24.cell 0
        have q1 := h24.cell 1
        refine exts_push (x := y) h24.right q0 q1 (by simp only [List.length_append, List.length_singleton]; omega) fun s25 w26 h26 => ?_
        rw [withI_iff]
        refine ⟨⟨i + 1, out ++ [⟨fs, en - fs⟩] ++ [y], e1, by omega, hfe, fun z hz => ?_, by simp; omega, fun _ => by simp, (h26.eq (by ac_rfl : _ = objA (some ⟨yb, 0, none⟩) [.int .i64 y.first, .int .i64 y.len] * (extsA s25 (out ++ [⟨fs, en - fs⟩] ++ [y]) * R))).right⟩, by rw [e1]; omega⟩
        rcases List.mem_append.1 hz with hz | hz
        · rcases List.mem_append.1 hz with hz | hz
          · exact hok z hz
          · simp only [List.mem_singleton] at hz; subst hz; unfold okX; simp only; omega
        · simp only [List.mem_singleton] at hz; subst hz; exact okx
      · have hdt : dn = true := by simpa using hd'
        subst hdt
        refine ⟨(y.first, y.len), ⟨d 0, by rw [add_mk]; exact d 1⟩, ?_⟩
        rw [withW_iff]
        have h15 := (hA _ h11).alloc (.cells #[.int .i64 y.first, .int .i64 y.len] 44)
        have p0 := h15.cell 0
        have p1 := h15.cell 1
        refine exts_push (x := y) h15.right p0 p1 (by omega) fun s16 w17 h17 => ?_
        rw [withI_iff]
        simp only [if_true] at hlen
        refine ⟨⟨i + 1, out ++ [y], e1, by omega, hfe, fun z hz => ?_, by simp; omega, fun hd' => by simp, (h17.eq (by ac_rfl : _ = objA (some ⟨yb, 0, none⟩) [.int .i64 y.first, .int .i64 y.len] * (extsA s16 (out ++ [y]) * R))).right⟩, by rw [e1]; omega⟩
        rcases List.mem_append.1 hz with hz | hz
        · exact hok z hz
        · simp only [List.mem_singleton] at hz; subst hz; exact okx
    · refine ⟨y.first, d 0, ?_⟩
      rw [withI_iff]
      refine ⟨y.first, d 0, y.len, by rw [add_mk]; exact d 1, ?_⟩
      rw [withI_iff, withI_iff, wrap_of (x := y.first + y.len) (by omega) (by omega)]
      refine ⟨⟨i + 1, out, e1, by omega, ?_, hok, by omega, hdn, h11.right⟩, by rw [e1]; omega⟩
      refine ⟨?_, ?_, ?_⟩
      · split <;> omega
      · split <;> split <;> omega
      · split <;> omega
  · obtain rfl : i = l.length := by omega
    refine bsplit_iff.2 ⟨fun hd' => ?_, fun hd' => ?_⟩
    · have hdf : dn = false := by simpa using hd'
      subst hdf
      simp only [Bool.false_eq_true, if_false] at hlen
      rw [withW_iff, wrap_of (x := en - fs) (by omega) (by omega)]
      have h20 := hw.alloc (.cells #[.int .i64 fs, .int .i64 (en - fs)] 44)
      have p0 := h20.cell 0
      have p1 := h20.cell 1
      refine exts_push (x := ⟨fs, en - fs⟩) h20.right p0 p1 (by omega) fun s21 w22 h22 => hk _ _ _ (by simp) (by simp; omega) (fun z hz => ?_) h22
      rcases List.mem_append.1 hz with hz | hz
      · exact hok z hz
      · simp only [List.mem_singleton] at hz; subst hz; unfold okX; simp only; omega
    · have hdt : dn = true := by simpa using hd'
      subst hdt
      simp only [if_true] at hlen
      exact hk _ _ _ (hdn rfl) (by omega) hok hw
/-- The reference's set takes them in: told is whether all may be; it is empty if none was put in. -/
theorem rset_add {p : Option Addr} {s : SV} {l : List Ext} {R : HP} {w : World} {K : Int → World → Prop} (h : Sat (setA p ⟨100, []⟩ * R) w) (hl : ∀ w', Sat R w' → extsOn (hp w') s l) (hn : l.length ≤ 100)
    (hk : ∀ out w', (out = [] ↔ l = [] ∨ l.all may = false) → Sat (setA p ⟨100, out⟩ * R) w' → K (if l.all may then 0 else 1) w') : c_scarpref11_Set_Add p s w K := by
  refine scarpref11_Set_Add_go ?_
  unfold f_scarpref11_Set_Add
  obtain ⟨b, rfl⟩ := set_ptr h
  have hsn := (hl _ h.right).1
  refine loop_i (fun (x : Int × Int) w' => ∃ i : Nat, x.2 = i ∧ i ≤ l.length ∧ (l.take i).all may = true ∧ Sat (setA (some ⟨b, 0, none⟩) ⟨100, []⟩ * R) w') (fun x _ => (l.length - x.2).toNat) ⟨0, rfl, by omega, by simp, h⟩ ?_
  rintro ⟨y, x⟩ w2 ⟨i, hx, hi, hall, hw⟩
  simp only at hx; subst hx
  dsimp only
  rw [hsn]
  refine bsplit_decide.2 ⟨fun hlt => ?_, fun hge => ?_⟩
  · have hi' : i < l.length := by omega
    obtain ⟨ad, ha, g1, g2⟩ := (hl _ hw.right).2 i hi'
    refine ⟨by omega, by omega, onP_i ha ⟨(l[i].first, l[i].len), ⟨g1, g2⟩, ?_⟩⟩
    refine rmay_c fun w7 k7 => ?_
    refine bsplit_iff.2 ⟨fun hm => ?_, fun hm => ?_⟩
    · have hno : l.all may = false := by
        rw [List.all_eq_false]
        exact ⟨l[i], List.getElem_mem hi', by simpa using hm⟩
      have := hk [] w7 ⟨fun _ => .inr hno, fun _ => rfl⟩ (k7.sat hw)
      rw [hno] at this
      exact this
    · have e1 : IntKind.i64.wrap ((i : Int) + 1) = ((i + 1 : Nat) : Int) := by rw [wrap_of (by omega) (by omega)]; omega
      refine ⟨⟨i + 1, e1, by omega, ?_, k7.sat hw⟩, by rw [e1]; omega⟩
      rw [List.take_succ_eq_append_getElem hi', List.all_append, hall]
      simpa using hm
  · obtain rfl : i = l.length := by omega
    rw [List.take_length] at hall
    have hok : ∀ x ∈ l, okX x := fun x hx => may_okX (List.all_eq_true.1 hall x hx)
    rw [withW_iff]
    have h8 := hw.alloc (.cells #[] 44)
    obtain ⟨s0, h9⟩ := setA_open h8.right
    rw [onP_some, add_mk]
    have c9 := (objA_cells h9).1
    refine ⟨s0, c9 1, ?_⟩
    have hs0 : s0.n = 0 := extsA_n h9.right
    have h10 : Sat (extsA ⟨some ⟨w2.heap.size, 0, none⟩, 0, 0⟩ [] * (objA (some ⟨b, 0, none⟩) [.int .i64 100, slv s0] * R)) (w2.alloc (.cells #[] 44)) := by
      have : Sat (extsA s0 [] * (objA (some ⟨b, 0, none⟩) [.int .i64 100, slv s0] * R)) (w2.alloc (.cells #[] 44)) := h9.eq (by ac_rfl)
      exact ownS_nil this.right rfl rfl
    refine exts_append (m := []) h10 ⟨hs0, fun i hi => by simp at hi⟩ (by simp) fun s11 w12 h12 => ?_
    refine loop_i (fun (x : SV × Int) w' => ∃ (i : Nat) (out : List Ext), x.2 = i ∧ i ≤ l.length ∧ (∀ y ∈ out, okX y) ∧ out.length ≤ i ∧ (1 ≤ i → 1 ≤ out.length) ∧ Sat (extsA x.1 out * (objA (some ⟨b, 0, none⟩) [.int .i64 100, slv s0] * R)) w') (fun x _ => (l.length - x.2).toNat)
      ⟨0, [], rfl, by omega, by simp, by simp, by omega, h12⟩ ?_
    rintro ⟨so, x⟩ w14 ⟨i, out, hx, hi, hoo, hol, ho1, h14⟩
    simp only at hx h14; subst hx
    dsimp only
    refine bsplit_decide.2 ⟨fun hlt => ?_, fun hge => ?_⟩
    · have hi' : i < l.length := by omega
      obtain ⟨ad, ha, g1, g2⟩ := (hl _ h14.right.right).2 i hi'
      refine ⟨by omega, by omega, onP_i ha ⟨(l[i].first, l[i].len), ⟨g1, g2⟩, ?_⟩⟩
      refine rput_c (e := l[i]) h14 (fun w' hw' => extsA_on hw'.left) (by omega) hoo (hok _ (List.getElem_mem hi')) fun s18 out' w19 o1 o2 o3 h19 => ?_
      have e1 : IntKind.i64.wrap ((i : Int) + 1) = ((i + 1 : Nat) : Int) := by rw [wrap_of (by omega) (by omega)]; omega
      exact ⟨⟨i + 1, out', e1, by omega, o3, by omega, fun _ => o1, (h19.eq (by ac_rfl : _ = extsA so out * (extsA s18 out' * (objA (some ⟨b, 0, none⟩) [.int .i64 100, slv s0] * R)))).right⟩, by rw [e1]; omega⟩
    · obtain rfl : i = l.length := by omega
      have h15 : Sat (objA (some ⟨b, 0, none⟩) [.int .i64 100, slv s0] * (extsA so out * R)) w14 := h14.eq (by ac_rfl)
      have c15 := (objA_cells h15).1
      have hson := extsA_n h14
      rw [onP_some]
      refine ⟨100, c15 0, ?_⟩
      rw [hson]
      refine bsplit_decide.2 ⟨fun hb => ?_, fun _ => ?_⟩
      · rw [if_neg (by omega)] at hb; omega
      rw [onP_some, add_mk]
      refine objA_store h15 (by simp) fun w23 h23 => ?_
      have := hk out w23 ⟨fun e => .inl ?_, fun e => ?_⟩ (setA_close (S := ⟨100, out⟩) (s := so) (by rw [← hson] at h23; simpa [List.set, slv] using h23))
      · rw [hall] at this; exact this
      · subst e
        rcases Nat.eq_zero_or_pos l.length with hz | hz
        · exact List.length_eq_zero_iff.1 hz
        · have := ho1 hz; simp at this
      · rcases e with e | e
        · subst e
          exact List.length_eq_zero_iff.1 (by simpa using hol)
        · rw [hall] at e; cases e
/-- Extents in both kinds of sets. -/
def setOf (l : List Ext) : XSet := (XSet.add ⟨100, []⟩ l).1
theorem setOf_ok (l : List Ext) : ∀ x ∈ (setOf l).l, okX x := add_okX (by simp)
theorem add_hundred {l : List Ext} (hn : l.length ≤ 100) : (XSet.add ⟨100, []⟩ l).2 = if l.all may then 0 else 1 := by
  unfold XSet.add
  cases h : l.all may with
  | false => simp
  | true =>
    simp only [Bool.true_eq_false, if_false, if_true, List.nil_append]
    split
    · rfl
    · have := joinM_length l
      rw [if_neg (by omega)]
theorem setOf_cov {l : List Ext} {k : Int} (hn : l.length ≤ 100) : cov (setOf l).l k ↔ l.all may = true ∧ cov l k := by
  have h := add_hundred hn
  cases hm : l.all may with
  | false =>
    have : setOf l = ⟨100, []⟩ := by unfold setOf XSet.add; rw [if_pos hm]
    rw [this]; simp [cov_nil]
  | true =>
    rw [hm] at h
    unfold setOf
    rw [add_cov (by simpa using h)]
    simp [cov_nil]
theorem sets_c {s : SV} {l : List Ext} {R : HP} {w : World} {K : (Option Addr) × (Option Addr) × Bool → World → Prop} (h : Sat R w) (hl : ∀ w', Sat R w' → extsOn (hp w') s l) (hn : l.length ≤ 100)
    (hk : ∀ p q out w', (out = [] ↔ l = [] ∨ l.all may = false) → Sat (setA p (setOf l) * (setA q ⟨100, out⟩ * R)) w' → K (p, q, true) w') : c_scarplaw16_sets s w K := by
  refine scarplaw16_sets_go ?_
  unfold f_scarplaw16_sets
  refine set_new h fun p w2 h2 => ?_
  rw [withW_iff]
  have h3 : Sat (objA (some ⟨w2.heap.size, 0, none⟩) [.int .i64 100, .slice none 0 0] * (setA p ⟨100, []⟩ * R)) (w2.alloc (.cells [.int .i64 100, .slice none 0 0].toArray 40)) := objA_new h2
  change Sat _ (w2.alloc (.cells #[.int .i64 100, .slice none 0 0] 40)) at h3
  generalize w2.alloc (.cells #[.int .i64 100, .slice none 0 0] 40) = w3 at h3 ⊢
  generalize w2.heap.size = qb at h3 ⊢
  have h4 : Sat (setA (some ⟨qb, 0, none⟩) ⟨100, []⟩ * (setA p ⟨100, []⟩ * R)) w3 := by
    refine setA_close (S := ⟨100, []⟩) (s := ⟨none, 0, 0⟩) ?_
    have : Sat (extsA ⟨none, 0, 0⟩ [] * (objA (some ⟨qb, 0, none⟩) [.int .i64 100, .slice none 0 0] * (setA p ⟨100, []⟩ * R))) w3 := ownS_nil h3 rfl rfl
    exact this.eq (by unfold slv; ac_rfl)
  have h5 : Sat (setA p ⟨100, []⟩ * (setA (some ⟨qb, 0, none⟩) ⟨100, []⟩ * R)) w3 := h4.eq (by ac_rfl)
  refine set_add h5 ⟨by simp, by simp⟩ (hl _ h5.right.right) (by simp; omega) fun w5 h6 => ?_
  obtain ⟨pb, rfl⟩ := set_ptr h6
  refine bsplit_iff.2 ⟨fun _ => ?_, fun e => (by cases e)⟩
  have h7 : Sat (setA (some ⟨qb, 0, none⟩) ⟨100, []⟩ * (setA (some ⟨pb, 0, none⟩) (setOf l) * R)) w5 := h6.eq (by unfold setOf; ac_rfl)
  refine rset_add h7 (fun w' hw' => hl w' hw'.right) hn fun out w7 ho h8 => ?_
  rw [add_hundred hn]
  have e : (decide ((if l.all may then (0 : Int) else 1) = (if l.all may then (0 : Int) else 1))) = true := by simp
  rw [e]
  exact hk _ _ out w7 ho (h8.eq (by ac_rfl))
theorem xmap_last {b : Nat} {M : XMap} {R : HP} {w : World} {K : Int → World → Prop} (h : Sat (xmapA (some ⟨b, 0, none⟩) M * R) w) (hk : K M.last w) : c_extmap_Map_Last (some ⟨b, 0, none⟩) w K := by
  obtain ⟨r, h1⟩ := xmapA_open h
  refine extmap_Map_Last_go (bsplit_iff.2 ⟨fun e => (by cases e), fun _ => ?_⟩)
  rw [onP_some, add_mk]
  exact ⟨M.last, (objA_cells h1).1 2, hk⟩
end Go.Proofs.Ytbolgpjcmchfoaa
