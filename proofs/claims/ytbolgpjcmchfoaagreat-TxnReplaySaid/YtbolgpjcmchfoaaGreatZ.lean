/- Steps: what an argument of them reads as; which are looked at. -/
import Derived.Test.YtbolgpjcmchfoaaGreatE
import Derived.Test.YtbolgpjcmchfoaaGreatA
import Derived.Test.YtbolgpjcmchfoaaGreatY
namespace Go.Proofs.YtbolgpjcmchfoaaGreat
open Go Go.Vc Go.Sl Go.Mo
structure Stp where
  kind : Int
  h : Int
  e : Ext
  l : List Put
  n : Int
def i64in (n : Int) : Prop := -9223372036854775808 ≤ n ∧ n ≤ 9223372036854775807
def stpCells (t : Stp) (d : SV) : List Value := [.int .i64 t.kind, .int .i64 t.h, .int .i64 t.e.first, .int .i64 t.e.len, slv d, .int .i64 t.n]
structure StpIn (t : Stp) : Prop where
  kind : i64in t.kind
  h : i64in t.h
  first : i64in t.e.first
  len : i64in t.e.len
  n : i64in t.n
def stepsOn (h : Heap) (s : SV) (l : List Stp) : Prop := s.n = l.length ∧ ∀ i (hi : i < l.length), ∃ ad d, s.a = some ad ∧ (∀ j, j < 6 → cellH h ((ad.add (i * 6)).add j) = (stpCells l[i] d)[j]?) ∧ putsOn h d l[i].l ∧ d.n ≤ d.c
theorem stepsOn_le {h g : Heap} (hg : le h g) {s : SV} {l : List Stp} (hl : stepsOn h s l) : stepsOn g s l :=
  ⟨hl.1, fun i hi => by
    obtain ⟨ad, d, a, b, c, c2⟩ := hl.2 i hi
    refine ⟨ad, d, a, fun j hj => ?_, putsOn_le hg c, c2⟩
    have h1 := b j hj
    have hlt : j < (stpCells l[i] d).length := hj
    rw [List.getElem?_eq_getElem hlt] at h1 ⊢
    exact cellH_le hg h1⟩
def StepsArg (w : World) (s : SV) (l : List Stp) : Prop := stepsOn (hp w) s l ∧ ∀ t ∈ l, StpIn t
theorem add0 (a : Addr) : a.add 0 = a := by unfold Addr.add; simp
section
variable {H : Type} {enc : TypeId × Value → H} {w : World} {base : Nat} {spare : Nat → Bool} {held : Bool}
set_option maxRecDepth 100000 in
theorem step_open {f0 f1 f2 f3 f4 : Field} (hu : Tryz.prog.underlying 68 = some (.struct #[f0, f1, f2, f3, f4])) (h0 : f0.type = 3 ∧ f0.offset = 0) (h1 : f1.type = 3 ∧ f1.offset = 1) (h2 : f2.type = 56 ∧ f2.offset = 2) (h3 : f3.type = 46 ∧ f3.offset = 4) (h4 : f4.type = 3 ∧ f4.offset = 5) (n : Nat) (cs : List Value) (x : DataW H × List MemPlace) (hx : DataW.trod enc Tryz.prog w base spare held n 68 cs = some x) : ∃ t : Stp, ∃ d : SV, cs = stpCells t d ∧ putsOn (hp w) d t.l ∧ d.n ≤ d.c ∧ StpIn t := by
  have ce : Tryz.prog.cellsOf 68 = 6 := by kernel_rfl
  have c3 : Tryz.prog.cellsOf 3 = 1 := by kernel_rfl
  have c56 : Tryz.prog.cellsOf 56 = 2 := by kernel_rfl
  have c46 : Tryz.prog.cellsOf 46 = 1 := by kernel_rfl
  obtain ⟨xs, m, _, _, hl, hxl, hf⟩ := DataW.trod_struct hu hx
  rw [ce] at hl
  have hx5 : xs.length = 5 := by rw [hxl]; rfl
  match cs, hl with
  | [k0, k1, k2, k3, k4, k5], _ =>
    have a0 := hf 0 f0 rfl
    rw [h0.1, h0.2, c3] at a0
    have a1 := hf 1 f1 rfl
    rw [h1.1, h1.2, c3] at a1
    have a2 := hf 2 f2 rfl
    rw [h2.1, h2.2, c56] at a2
    have a3 := hf 3 f3 rfl
    rw [h3.1, h3.2, c46] at a3
    have a4 := hf 4 f4 rfl
    rw [h4.1, h4.2, c3] at a4
    simp only [List.drop_zero, List.take_succ_cons, List.take_zero, List.drop_succ_cons] at a0 a1 a2 a3 a4
    rw [List.getElem?_eq_getElem (by omega)] at a0 a1 a2 a3 a4
    obtain ⟨n0, e0, _, w0⟩ := DataW.trod_int Tryz.underlying3 a0
    obtain ⟨n1, e1, _, w1⟩ := DataW.trod_int Tryz.underlying3 a1
    obtain ⟨y, e2, y1, y2⟩ := ext_open Tryz.underlying56 ⟨rfl, rfl⟩ ⟨rfl, rfl⟩ Tryz.underlying3 (by kernel_rfl) (by kernel_rfl) _ _ _ a2
    obtain ⟨p, d, e3, e6, _, e4, _⟩ := puts_open Tryz.underlying46 Tryz.underlying33 ⟨rfl, rfl⟩ ⟨rfl, rfl⟩ Tryz.underlying3 Tryz.underlying30 Tryz.underlying5 (by kernel_rfl) (by kernel_rfl) (by kernel_rfl) (by kernel_rfl) _ _ _ a3
    obtain ⟨n5, e5, _, w5⟩ := DataW.trod_int Tryz.underlying3 a4
    have b0 := bounds_i64 w0
    have b1 := bounds_i64 w1
    have b5 := bounds_i64 w5
    cases e0; cases e1; cases e2; cases e3; cases e5
    exact ⟨⟨n0, n1, y, p, n5⟩, d, rfl, e4, e6, ⟨b0, b1, y1, y2, b5⟩⟩
set_option maxRecDepth 100000 in
theorem steps_row {r : Reach} {b0 : Nat} {v : Value} {dd : DataW H} {ps : List MemPlace} (hval : Value.okWide Tryz.prog w r b0 63 v) (hd : DataW.Trod enc Tryz.prog w base spare held 63 v dd ps) : ∃ (s : SV) (l : List Stp), v = .slice s.a s.n s.c ∧ StepsArg w s l := by
  obtain ⟨fuel, hf⟩ := hd
  obtain ⟨s, l, h1, _, _, h4, h5⟩ := slice_open (α := Stp) (sz := 6) (Q := fun cs t => ∃ d : SV, cs = stpCells t d ∧ putsOn (hp w) d t.l ∧ d.n ≤ d.c ∧ StpIn t) Tryz.underlying63 (by kernel_rfl) (fun n cs x hx => step_open Tryz.underlying68 ⟨rfl, rfl⟩ ⟨rfl, rfl⟩ ⟨rfl, rfl⟩ ⟨rfl, rfl⟩ ⟨rfl, rfl⟩ n cs x hx) hf
  refine ⟨s, l, arg_of_cells Tryz.underlying63 hval h1, ⟨h4, fun i hi => ?_⟩, fun t ht => ?_⟩
  · obtain ⟨ad, cs', e, a1, a2, d, a3, a4, a5, _⟩ := h5 i hi
    refine ⟨ad, d, e, fun j hj => ?_, a4, a5⟩
    rw [← a3]; exact a2 j hj
  · obtain ⟨i, hi, rfl⟩ := List.getElem_of_mem ht
    obtain ⟨_, _, _, _, _, _, _, _, _, h⟩ := h5 i hi
    exact h
end
theorem small_c {s : SV} {l : List Stp} {w : World} {K : Bool → World → Prop} (hs : stepsOn (hp w) s l) (hk : ∀ b w', Keep w w' → (b = true → l.length ≤ 150 ∧ ∀ t ∈ l, t.l.length ≤ 30000) → K b w') : c_scarplaw23_small s w K := by
  refine scarplaw23_small_go ?_
  unfold f_scarplaw23_small
  have hsn := hs.1
  refine loop_i (fun (x : Int × Bool × Int) w' => ∃ i : Nat, x.2.2 = i ∧ i ≤ l.length ∧ i ≤ 2 ^ 50 ∧ Keep w w' ∧ (0 ≤ x.1 ∧ x.1 ≤ 30000) ∧ 3 * (i : Int) ≤ x.1 ∧ ∀ t ∈ l.take i, t.l.length ≤ 30000) (fun x _ => (l.length - x.2.2).toNat) ⟨0, rfl, by omega, by omega, Keep.refl w, by omega, by simp, by simp⟩ ?_
  rintro ⟨m, y, x⟩ w2 ⟨i, hx, hi, hi50, kw, hm, h3, hf⟩
  simp only at hx hm h3; subst hx
  dsimp only
  rw [hsn]
  refine bsplit_decide.2 ⟨fun hlt => ?_, fun hge => ?_⟩
  · have hi' : i < l.length := by omega
    obtain ⟨ad, d, ha, hc, hd, _⟩ := (stepsOn_le (keep_le kw) hs).2 i hi'
    refine ⟨by omega, by omega, onP_i ha ⟨d, hc 4 (by omega), ?_⟩⟩
    refine puts_size hd (by omega) fun r w7 k7 r0 r1 hr => ?_
    rw [withW_iff]
    have h1 := (sat_whole w7).alloc (.cells #[.int .i64 r, .int .i64 3] 3)
    have k8 := Keep.alloc w7 (.cells #[.int .i64 r, .int .i64 3] 3)
    generalize w7.alloc (.cells #[.int .i64 r, .int .i64 3] 3) = w8 at h1 k8 ⊢
    have hall : ∀ x ∈ [r, (3 : Int)], 0 ≤ x := by intro x hx; simp only [List.mem_cons, List.not_mem_nil, or_false] at hx; omega
    refine sum_c (l := [r, 3]) (ints_two h1 rfl) (by simp) (by omega) hall ?_
    have hb := sumM_bounds [r, 3] m hm.1 (by omega) hall
    have he := sumM_each [r, 3] m 30000 hm.1 (by omega) hall
    have hge : sumM m [r, 3] ≤ 30000 → m + 3 ≤ sumM m [r, 3] := fun h => by
      simp only [sumM] at h ⊢
      split at h
      · omega
      · split at h
        · omega
        · rename_i g1 g2
          rw [if_neg g1, if_neg g2]; omega
    have kk := kw.trans (k7.trans k8)
    refine bsplit_decide.2 ⟨fun h => hk _ _ kk (fun e => by cases e), fun h => ?_⟩
    have hr' := (hr (he (by omega) (by omega) r (by simp))).1
    have := hge (by omega)
    rw [withI_iff]
    have e1 : IntKind.i64.wrap ((i : Int) + 1) = ((i + 1 : Nat) : Int) := by rw [wrap_of (by omega) (by omega)]; omega
    refine ⟨⟨i + 1, e1, by omega, by omega, kk, by omega, by omega, fun t ht => ?_⟩, by rw [e1]; omega⟩
    rw [List.take_succ_eq_append_getElem hi'] at ht
    rcases List.mem_append.1 ht with ht | ht
    · exact hf t ht
    · simp only [List.mem_singleton] at ht; subst ht; omega
  · obtain rfl : i = l.length := by omega
    rw [List.take_length] at hf
    exact hk _ _ kw fun e => ⟨by have : ((l.length : Nat) : Int) ≤ 150 := by simpa using e
                                 omega, hf⟩
end Go.Proofs.YtbolgpjcmchfoaaGreat
