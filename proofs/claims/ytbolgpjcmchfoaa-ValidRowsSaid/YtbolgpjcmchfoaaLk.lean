/- The library's slices.SortFunc at extents, as a condition asks for it. -/
import Derived.Test.YtbolgpjcmchfoaaLs
import Derived.Test.YtbolgpjcmchfoaaF1
import Derived.Test.YtbolgpjcmchfoaaW
namespace Go.Proofs.Ytbolgpjcmchfoaa
open Go Go.Vc Go.Sl Go.Mo Go.Shelf Go.RowKit
def i64ok (k : Int) : Prop := -9223372036854775808 ≤ k ∧ k ≤ 9223372036854775807
theorem cmp_c {a b : Int} {w : World} {K : Int → World → Prop} (hk : K (if a < b then -1 else if b < a then 1 else 0) w) : c_cmp_Compare_int a b w K := by
  refine cmp_Compare_int_go ?_
  refine cmp_isNaN_int_go ?_
  simp only [f_cmp_isNaN_int, decide_true, Bool.not_true]
  refine cmp_isNaN_int_go ?_
  simp only [f_cmp_isNaN_int, decide_true, Bool.not_true, bsplit]
  refine bsplit_decide.2 ⟨fun h => ?_, fun h => bsplit_decide.2 ⟨fun h2 => ?_, fun h2 => ?_⟩⟩
  · rw [if_pos h] at hk; exact hk
  · rw [if_neg h, if_pos h2] at hk; exact hk
  · rw [if_neg h, if_neg h2] at hk; exact hk
theorem less_c {x y : Ext} {w : World} {K : Int → World → Prop} (hk : K (cmpE x y) ((w.alloc (.cells #[.int .i64 x.first, .int .i64 x.len] 44)).alloc (.cells #[.int .i64 y.first, .int .i64 y.len] 44))) : c_ival_joined_1 x.first x.len y.first y.len w K := by
  refine ival_joined_1_go ?_
  simp only [f_ival_joined_1, withW_iff]
  refine ⟨x.first, ?_, y.first, ?_, cmp_c hk⟩
  · rw [World.cell?_alloc_lt _ _ _ (by simp), World.cell?_alloc_new]; rfl
  · rw [World.cell?_alloc_new]; rfl
theorem flatK_encE (l : List Ext) : (Sort.flatK encE 2 l.toArray).toList = l.flatMap encE := by
  apply List.ext_getElem?
  intro j
  by_cases hj : j < l.length * 2
  · have h1 : (Sort.flatK encE 2 l.toArray)[j]! = (encE l.toArray[j / 2]!)[j % 2]! := Sort.get_flatK encE 2 l.toArray j (by simpa using hj)
    have hi : j / 2 < l.length := by omega
    rw [getElem!_pos _ j (by simpa using hj), getElem!_pos _ (j / 2) (by simpa using hi)] at h1
    obtain ⟨g1, g2⟩ := encE_get l (j / 2) hi
    rw [Array.getElem?_toList, Array.getElem?_eq_getElem (by simpa using hj), h1]
    rcases Nat.mod_two_eq_zero_or_one j with e | e
    · have ej : j / 2 * 2 = j := by omega
      rw [ej] at g1
      rw [g1, e]; simp [encE]
    · have ej : j / 2 * 2 + 1 = j := by omega
      rw [ej] at g2
      rw [g2, e]; simp [encE]
  · rw [List.getElem?_eq_none (by simp; omega), List.getElem?_eq_none (by rw [encE_length]; omega)]
theorem putCells_row (xs ys sp : List Value) (h : ys.length = xs.length) : Sort.putCells id 0 ys.toArray (xs ++ sp).toArray = (ys ++ sp).toArray := by
  unfold Sort.putCells
  apply Array.ext
  · simp [h]
  · intro k h1 h2
    simp only [Array.getElem_mapIdx]
    by_cases hk : k < ys.length
    · rw [if_pos (by simp [hk])]
      simp [hk, List.getElem_append_left]
    · rw [if_neg (by simp [hk])]
      simp only [List.getElem_toArray]
      rw [List.getElem_append_right (by omega), List.getElem_append_right (by omega)]
      simp [h]
theorem sort_c {s : SV} {l : List Ext} {R : HP} {w : World} {K : Unit → World → Prop} (h : Sat (extsA s l * R) w) (hn : l.length ≤ 2 ^ 40) (hk : ∀ w', Sat (extsA s (sortE l) * R) w' → K () w') : c_slices_SortFunc_api_Extent_api_Extent_at_ival_joined_1 s w K := by
  have hsn := extsA_n h
  by_cases h0 : l.length = 0
  · have hl : l = [] := List.length_eq_zero_iff.1 h0
    have hs : sortE l = [] := by rw [← List.length_eq_zero_iff, sortE_length, h0]
    have hc := AnyF.slices_SortFunc_none { Try.sortF with } s.a s.c (.func (.func 49) #[] #[]) w
    change Calls Try.prog 48 _ _ _ at hc
    have e0 : s.n = 0 := by omega
    unfold c_slices_SortFunc_api_Extent_api_Extent_at_ival_joined_1 callsR
    rw [e0]
    refine hc.mono ?_
    rintro e w' ⟨rfl, rfl⟩
    exact ⟨Wsame.refl _, (), rfl, hk _ (by rw [hs, ← hl]; exact h)⟩
  · rcases ownS_cases h with ⟨e1, e2, e3, _⟩ | ⟨hvl, hcap, b, sp, t, hsa, hsl, h1⟩
    · omega
    have hlen := encE_length l
    have eg : ∀ args w, (callFunc 49 args).run Try.prog w = .ok (.enter 49 args) w := enters_of Try.func49 (by kernel_rfl) rfl
    have hcmp : CmpLays Try.prog 49 #[] encE 2 cmpE b 0 l.toArray.size w := by
      intro m os dk _ x y
      have := less_c (x := x) (y := y) (w := Proofs.sortWorldK encE 2 w b 0 m dk os) (K := fun r w' => r = cmpE x y ∧ ∃ q os', w' = Sort.grow ((Proofs.sortWorldK encE 2 w b 0 m dk os).drewN q) os') ⟨rfl, 0, _, by rw [Sort.alloc_eq_grow, Sort.alloc_eq_grow, Sort.grow_grow]; rfl⟩
      refine Calls.mono this ?_
      rintro e w' ⟨_, r, rfl, rfl, hw⟩
      exact ⟨rfl, hw⟩
    have hH : Sort.HoldsK encE 2 w b 0 l.toArray := by
      intro j hj
      have hj' : j < (l.flatMap encE).length := by rw [hlen]; simpa using hj
      rw [Nat.zero_add, h1.cell, h1.frozen]
      refine ⟨?_, rfl⟩
      rw [List.getElem?_toArray, List.getElem?_append_left hj', List.getElem?_eq_getElem hj']
      have : (Sort.flatK encE 2 l.toArray)[j]! = (l.flatMap encE)[j] := by
        rw [getElem!_pos _ j hj, ← Array.getElem_toList]
        exact List.getElem_of_eq (flatK_encE l) _
      rw [this]; rfl
    have hcon := AnyQ.slices_SortFunc_eq Try.sortF 2 Try.isAgg44 Try.sizeOf44 encE (fun _ => rfl) (fun x v hv => by simp [encE] at hv; rcases hv with rfl | rfl <;> rfl) cmpE swoE 49 #[] b 0 s.c l.toArray w eg hcmp hH h1.lt (by simp; omega)
    change Calls Try.prog 48 _ _ _ at hcon
    unfold c_slices_SortFunc_api_Extent_api_Extent_at_ival_joined_1 callsR
    rw [hsa, hsn]
    refine Calls.mono hcon ?_
    rintro e w' ⟨rfl, n, os, hw⟩
    refine ⟨by rw [hw]; exact ⟨rfl, rfl, rfl⟩, (), rfl, hk _ ?_⟩
    obtain ⟨d, hd⟩ : ∃ d, Sort.pdq (ltOf cmpE) l.toArray 0 l.toArray.size (Lib.bitLen l.toArray.size) true true = d := ⟨_, rfl⟩
    rw [hd] at hw
    have hse : sortE l = d.toList := by unfold sortE; rw [← hd]; simp
    have hdl : d.toList.length = l.length := by rw [← hse, sortE_length]
    rw [hse]
    obtain ⟨a, sn, sc⟩ := s
    cases hsa
    simp only at hsn hsl hcap hvl
    refine ownS_mk (sp := sp) (t := t) ?_ (by rw [encE_length]; omega) hcap (by rw [encE_length] at hsl ⊢; omega)
    have hb := h1.get
    have hcells : Sort.putCells id 0 (Sort.flatK encE 2 d) (l.flatMap encE ++ sp).toArray = (d.toList.flatMap encE ++ sp).toArray := by
      have e1 : Sort.flatK encE 2 d = (d.toList.flatMap encE).toArray := by
        rw [← flatK_encE d.toList]
      rw [e1]
      exact putCells_row _ _ _ (by rw [encE_length, encE_length]; omega)
    have h2 : Sat (pt b (.cells (d.toList.flatMap encE ++ sp).toArray t (0, 0)) * R) (Sort.putRowK encE 2 (Sort.ahead w n) b 0 d) := by
      refine h1.change ?_ fun c hc => ?_
      · rw [← hcells]
        simp [Sort.putRowK, Sort.putRow, Sort.mapBlock, Sort.ahead, Array.getElem?_modify, hb, Sort.onCells]
      · simp [Sort.putRowK, Sort.putRow, Sort.mapBlock, Sort.ahead, Array.getElem?_modify, Ne.symm hc]
    rw [hw]
    refine h2.grow fun c hc => ?_
    simp only [Proofs.sortWorldK, Sort.grow]
    rw [Array.getElem?_append_left hc]
end Go.Proofs.Ytbolgpjcmchfoaa

