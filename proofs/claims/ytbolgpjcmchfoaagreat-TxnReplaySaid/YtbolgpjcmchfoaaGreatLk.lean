/- The library shelf: sorted keys of maps, SortFunc at extents. -/
import Derived.Test.YtbolgpjcmchfoaaGreatLs
import Derived.Test.YtbolgpjcmchfoaaGreatF1
import Derived.Test.YtbolgpjcmchfoaaGreatW
/- The keys of a map, sorted: the library's slices.Sorted over maps.Keys, as a condition asks for it. -/
namespace Go.Proofs.YtbolgpjcmchfoaaGreat
open Go Go.Vc Go.Sl Go.Maps Go.Sort Go.Shelf Go.RowKit
open Go.Mo (sortI)
theorem insert_perm {H : Type} (x : Lit × DataW H) (l : List (Lit × DataW H)) : (DataW.insert x l).Perm (x :: l) := by
  induction l with
  | nil => exact List.Perm.refl _
  | cons y r ih =>
    simp only [DataW.insert]
    split
    · exact List.Perm.refl _
    · exact (ih.cons y).trans (List.Perm.swap x y r)
theorem foldr_perm {H : Type} (l : List (Lit × DataW H)) : (l.foldr DataW.insert []).Perm l := by
  induction l with
  | nil => exact List.Perm.refl _
  | cons x r ih => exact (insert_perm x _).trans (ih.cons x)
def i64ok (k : Int) : Prop := -9223372036854775808 ≤ k ∧ k ≤ 9223372036854775807
theorem owns_of {r : Nat} {es : List En} {clock : Nat} {w : World} (ok : MapOk es clock) (hr : ∀ e ∈ es, i64ok e.k) (hl : es.length ≤ 2 ^ 40) (h : w.heap[r]? = some (.map (entries .i64 es) clock)) :
    ∃ D0 : DataW Unit, w.ownsMap Tryz.prog 3 (fun _ => some (.nil, [])) r es.length D0 ∧ (intKeys D0).Perm (es.map En.k) ∧ Maps.size D0 = es.length := by
  have hk : ∀ e ∈ es, keyOf Tryz.prog 3 (.int .i64 e.k) = some (.int .i64 e.k) := fun e he => keyOf_int_mk Tryz.underlying3 (by
    have := hr e he; unfold i64ok at this
    simp [Lit.wf, IntKind.bits, IntKind.signed, IntKind.min, IntKind.max]; omega)
  have hrg : ∀ e ∈ es, WideElems.rg Tryz.prog 3 (fun _ => some ((.nil : DataW Unit), [])) (En.e .i64 e) = (.int .i64 e.k, .nil) := fun e he => by
    unfold WideElems.rg WideElems.rd
    simp [En.e, hk e he]
  refine ⟨_, ⟨entries .i64 es, clock, h, ⟨by simp [entries, maxLen]; omega, ⟨?_, ?_, ?_⟩, ?_⟩, by simp [entries], rfl⟩, ?_, ?_⟩
  · intro x hx
    simp only [entries] at hx
    obtain ⟨e, he, rfl⟩ := List.mem_map.1 hx
    exact ok.2.2 e he
  · have : (entries .i64 es).toList.map (·.born) = es.map En.b := by simp [entries, En.e, Function.comp_def]
    rw [this]; exact ok.2.1
  · have : (entries .i64 es).toList.map (·.key) = (es.map En.k).map (Value.int .i64) := by simp [entries, En.e, Function.comp_def]
    rw [this]
    exact List.pairwise_map.2 (ok.1.imp fun hne hab => hne (by simpa using hab))
  · intro x hx
    simp only [entries] at hx
    obtain ⟨e, he, rfl⟩ := List.mem_map.1 hx
    exact ⟨(.int .i64 e.k, .nil), by unfold WideElems.rd; simp [En.e, hk e he]⟩
  · have e1 : (entries .i64 es).toList.map (WideElems.rg Tryz.prog 3 fun _ => some ((.nil : DataW Unit), [])) = es.map fun e => ((.int .i64 e.k : Lit), (DataW.nil : DataW Unit)) := by
      simp only [entries, List.map_map]
      refine List.map_congr_left fun e he => ?_
      rw [Function.comp_apply, hrg e he]
    rw [e1]
    refine ((foldr_perm _).map _).trans ?_
    rw [List.map_map]
    have e2 : es.map ((fun p : Lit × DataW Unit => Go.intOf p.1) ∘ fun e : En => ((.int .i64 e.k : Lit), (DataW.nil : DataW Unit))) = es.map En.k := List.map_congr_left fun _ _ => rfl
    rw [e2]
  · show List.length _ = _
    rw [(foldr_perm _).length_eq]; simp [entries]
/-- slices.Sort's two contracts at this dump, at the fence that asks nothing. -/
theorem sortsA (m : Nat) : AnyZI.SortsIn Tryz.prog Tryz.sortedA_ren Fence.wide m :=
  ⟨fun blk off cap ss W hH hblk hsz => callsIn_wide.2 (AnyM.slices_Sort_int Tryz.sortA blk off cap ss W hH hblk hsz),
   fun p cap W => callsIn_wide.2 (AnyM.slices_Sort_int_none Tryz.sortA p cap W)⟩
/-- What the sorted keys of a map are. -/
abbrev SortedKeys (fk : Nat) : Prop := ∀ (r : Nat) (l : List (Int × Value)) (R : HP) (w : World) (K : SV → World → Prop), Sat (mapA r l * R) w → (∀ p ∈ l, i64ok p.1) → l.length ≤ 2 ^ 40 →
  (∀ s w', s.n = l.length → Keep w w' → (∀ R, Sat R w → Sat (ownS 1 s ((sortI (l.map Prod.fst)).map (Value.int .i64)) * R) w') → K s w') →
  callsR Tryz.prog fk #[.map (some r)] [.cell .func] w fun x3 w4 => callsR Tryz.prog 109 #[Sh.v .func x3] [.cell .slice] w4 K
theorem sorted_gen (fk fi tk : Nat)
    (hK : ∀ mb W, CallsIn Fence.wide 5 Tryz.prog fk #[.map mb] W fun e w' => e = .returned (.func (.func fi) #[] #[.pointer (some ⟨W.heap.size, 0, none⟩)]) ∧ w' = W.alloc (.cells #[.map mb] tk))
    (hE : ∀ args w, (callFunc fi args).run Tryz.prog w = .ok (.enter fi args) w)
    (hG : ∀ (Bm b nn : Nat) (D0 : DataW Unit) (R : Value → Option (DataW Unit × List MemPlace)) (w : World), Bm < w.heap.size → w.cell? ⟨Bm, 0, none⟩ = some (.map (some b)) → w.ownsMap Tryz.prog 3 R b nn D0 →
      SeqGives Fence.wide 2 Tryz.prog fi #[.pointer (some ⟨Bm, 0, none⟩)] encZ (fun ss => ss.Perm (intKeys D0)) (Maps.size D0) w) : SortedKeys fk := by
  intro r l R w K h hi hn hk
  obtain ⟨es, clock, ok, rfl, h1⟩ := mapA_open h
  have hi' : ∀ e ∈ es, i64ok e.k := fun e he => hi (e.k, e.v) (List.mem_map.2 ⟨e, he, rfl⟩)
  have hn' : es.length ≤ 2 ^ 40 := by simpa [kvs] using hn
  have hr : r < w.heap.size := h1.lt
  refine (callsIn_wide.1 (hK (some r) w)).mono ?_
  rintro e w4 ⟨rfl, rfl⟩
  refine ⟨⟨rfl, rfl, rfl⟩, some (.func fi, #[], #[.pointer (some ⟨w.heap.size, 0, none⟩)]), rfl, ?_⟩
  have k1 := Keep.alloc w (.cells #[.map (some r)] tk)
  obtain ⟨D0, hown, hperm, hsz⟩ := owns_of ok hi' hn' ((k1 r hr).trans h1.get)
  have cS := AnyZI.sorted_in Tryz.sortedA Fence.wide 5 trivial trivial trivial trivial rfl (by omega) (sortsA _) (enters_of Tryz.func138 (by kernel_rfl) rfl) fi #[.pointer (some ⟨w.heap.size, 0, none⟩)] trivial hE _ _ (by rw [hsz]; simp [maxLen]; omega) (by rw [hsz]; omega) _
    (hG w.heap.size r es.length D0 _ _ (by simp) (by simp) hown)
  refine (callsIn_wide.1 cS).mono ?_
  rintro e w5 ⟨v, ss, rfl, hS, hrow, hnil, hb⟩
  have hss : ss.mergeSort (fun x y => decide (x ≤ y)) = sortI ((kvs es).map Prod.fst) := by
    have e1 : (kvs es).map Prod.fst = es.map En.k := by simp [kvs, Function.comp_def]
    rw [e1]
    exact mergeSort_of_perm_i (hS.trans hperm)
  have hlen : ss.length = es.length := by rw [(hS.trans hperm).length_eq]; simp
  have k2 : Keep w w5 := k1.trans fun b hbl => hb.block b hbl
  rw [hss] at hrow
  obtain ⟨hl, hcase⟩ := hrow
  have key : ∀ (s : SV), v = .slice s.a s.n s.c → s.n = (kvs es).length → (∀ R, Sat R w → Sat (ownS 1 s ((sortI ((kvs es).map Prod.fst)).map (Value.int .i64)) * R) w5) → Wsame (w.alloc (.cells #[.map (some r)] tk)) w5 ∧ ∃ x : SV, Ending.returned v = .returned (RT.ret [.cell .slice] x) ∧ K x w5 := fun s hv hn hs => ⟨⟨hb.os, hb.tape, hb.output⟩, s, by rw [hv]; rfl, hk s w5 hn k2 hs⟩
  have hkl : (kvs es).length = es.length := by simp [kvs]
  rcases hcase with ⟨rfl, h0⟩ | ⟨g, cap, cur, rfl, hg, hcell, hnc, _, hcs, htake⟩
  · refine key ⟨none, 0, 0⟩ rfl (by rw [hkl, ← hlen]; exact h0.symm) fun R' hR' => ?_
    have : (sortI ((kvs es).map Prod.fst)).map encZ = [] := by rw [← List.length_eq_zero_iff, hl, h0]
    show Sat (ownS 1 _ ((sortI ((kvs es).map Prod.fst)).map encZ) * R') w5
    rw [this]
    exact ownS_nil (k2.sat hR') rfl rfl
  · refine key ⟨some ⟨g, 0, none⟩, ss.length, cap⟩ rfl (by rw [hkl, ← hlen]) fun R' hR' => ?_
    have hgw : w.heap.size ≤ g := by simp at hg; omega
    have e2 : cur = ((sortI ((kvs es).map Prod.fst)).map (Value.int .i64) ++ cur.toList.drop (ss.length * 1)).toArray := by
      rw [show (sortI ((kvs es).map Prod.fst)).map (Value.int .i64) = cur.toList.take (ss.length * 1) from htake.symm]; simp
    rw [e2] at hcell
    refine ownS_mk (sp := cur.toList.drop (ss.length * 1)) (Sat.grow_new hR' k2 hgw hcell) (by rw [show (sortI ((kvs es).map Prod.fst)).map (Value.int .i64) = (sortI ((kvs es).map Prod.fst)).map encZ from rfl, hl]) hnc ?_
    rw [show (sortI ((kvs es).map Prod.fst)).map (Value.int .i64) = (sortI ((kvs es).map Prod.fst)).map encZ from rfl, hl]
    simp only [List.length_drop, Array.length_toList]; omega
theorem sorted_V : SortedKeys 110 := sorted_gen 110 139 _ (fun mb W => AnyZI.keys_in Tryz.keysV Fence.wide 5 trivial rfl mb W) (enters_of Tryz.func139 (by kernel_rfl) rfl) fun Bm b nn D0 R w h1 h2 h3 => AnyZI.keys_gives (ρ := Tryz.keysV_ren) { Tryz.keysV with } Fence.wide _ trivial rfl (by omega) Bm b nn D0 _ h1 h2 h3
theorem sorted_B : SortedKeys 116 := sorted_gen 116 145 _ (fun mb W => AnyZI.keys_in Tryz.keysB Fence.wide 5 trivial rfl mb W) (enters_of Tryz.func145 (by kernel_rfl) rfl) fun Bm b nn D0 R w h1 h2 h3 => AnyZI.keys_gives (ρ := Tryz.keysB_ren) { Tryz.keysB with } Fence.wide _ trivial rfl (by omega) Bm b nn D0 _ h1 h2 h3
theorem sorted_T : SortedKeys 136 := sorted_gen 136 156 _ (fun mb W => AnyZI.keys_in Tryz.keysT Fence.wide 5 trivial rfl mb W) (enters_of Tryz.func156 (by kernel_rfl) rfl) fun Bm b nn D0 R w h1 h2 h3 => AnyZI.keys_gives (ρ := Tryz.keysT_ren) { Tryz.keysT with } Fence.wide _ trivial rfl (by omega) Bm b nn D0 _ h1 h2 h3
end Go.Proofs.YtbolgpjcmchfoaaGreat
/- The library's slices.SortFunc at extents, as a condition asks for it. -/
namespace Go.Proofs.YtbolgpjcmchfoaaGreat
open Go Go.Vc Go.Sl Go.Mo Go.Shelf Go.RowKit
theorem cmp_c {a b : Int} {w : World} {K : Int → World → Prop} (hk : K (if a < b then -1 else if b < a then 1 else 0) w) : c_cmp_Compare_int a b w K := by
  refine cmp_Compare_int_go ?_
  refine cmp_isNaN_int_go ?_
  simp only [f_cmp_isNaN_int, decide_true, Bool.not_true]
  refine cmp_isNaN_int_go ?_
  simp only [f_cmp_isNaN_int, decide_true, Bool.not_true, bsplit]
  refine bsplit_decide.2 ⟨fun h => ?_, fun h => bsplit_decide.2 ⟨fun h2 => ?_, fun h2 => ?_⟩⟩
  · rw [if_pos h] at hk; exact hk
  · rw [if_neg h, if_pos h2] at hk; exact hk
  · rw [if_neg h, if_neg h2] at hk; exact hk
theorem less_c {x y : Ext} {w : World} {K : Int → World → Prop} (hk : K (cmpE x y) ((w.alloc (.cells #[.int .i64 x.first, .int .i64 x.len] 56)).alloc (.cells #[.int .i64 y.first, .int .i64 y.len] 56))) : c_ival_joined_1 x.first x.len y.first y.len w K := by
  refine ival_joined_1_go ?_
  simp only [f_ival_joined_1, withW_iff]
  refine ⟨x.first, ?_, y.first, ?_, cmp_c hk⟩
  · rw [World.cell?_alloc_lt _ _ _ (by simp), World.cell?_alloc_new]; rfl
  · rw [World.cell?_alloc_new]; rfl
theorem flatK_encE (l : List Ext) : (Sort.flatK encE 2 l.toArray).toList = l.flatMap encE := by
  apply List.ext_getElem?
  intro j
  by_cases hj : j < l.length * 2
  · have h1 : (Sort.flatK encE 2 l.toArray)[j]! = (encE l.toArray[j / 2]!)[j % 2]! := Sort.get_flatK encE 2 l.toArray j (by simpa using hj)
    have hi : j / 2 < l.length := by omega
    rw [getElem!_pos _ j (by simpa using hj), getElem!_pos _ (j / 2) (by simpa using hi)] at h1
    obtain ⟨g1, g2⟩ := encE_get l (j / 2) hi
    rw [Array.getElem?_toList, Array.getElem?_eq_getElem (by simpa using hj), h1]
    rcases Nat.mod_two_eq_zero_or_one j with e | e
    · have ej : j / 2 * 2 = j := by omega
      rw [ej] at g1
      rw [g1, e]; simp [encE]
    · have ej : j / 2 * 2 + 1 = j := by omega
      rw [ej] at g2
      rw [g2, e]; simp [encE]
  · rw [List.getElem?_eq_none (by simp; omega), List.getElem?_eq_none (by rw [encE_length]; omega)]
theorem putCells_row (xs ys sp : List Value) (h : ys.length = xs.length) : Sort.putCells id 0 ys.toArray (xs ++ sp).toArray = (ys ++ sp).toArray := by
  unfold Sort.putCells
  apply Array.ext
  · simp [h]
  · intro k h1 h2
    simp only [Array.getElem_mapIdx]
    by_cases hk : k < ys.length
    · rw [if_pos (by simp [hk])]
      simp [hk, List.getElem_append_left]
    · rw [if_neg (by simp [hk])]
      simp only [List.getElem_toArray]
      rw [List.getElem_append_right (by omega), List.getElem_append_right (by omega)]
      simp [h]
theorem sort_c {s : SV} {l : List Ext} {R : HP} {w : World} {K : Unit → World → Prop} (h : Sat (extsA s l * R) w) (hn : l.length ≤ 2 ^ 40) (hk : ∀ w', Sat (extsA s (sortE l) * R) w' → K () w') : c_slices_SortFunc_api_Extent_api_Extent_at_ival_joined_1 s w K := by
  have hsn := extsA_n h
  by_cases h0 : l.length = 0
  · have hl : l = [] := List.length_eq_zero_iff.1 h0
    have hs : sortE l = [] := by rw [← List.length_eq_zero_iff, sortE_length, h0]
    have hc := AnyF.slices_SortFunc_none { Tryz.sortF with } s.a s.c (.func (.func 164) #[] #[]) w
    change Calls Tryz.prog 163 _ _ _ at hc
    have e0 : s.n = 0 := by omega
    unfold c_slices_SortFunc_api_Extent_api_Extent_at_ival_joined_1 callsR
    rw [e0]
    refine hc.mono ?_
    rintro e w' ⟨rfl, rfl⟩
    exact ⟨Wsame.refl _, (), rfl, hk _ (by rw [hs, ← hl]; exact h)⟩
  · rcases ownS_cases h with ⟨e1, e2, e3, _⟩ | ⟨hvl, hcap, b, sp, t, hsa, hsl, h1⟩
    · omega
    have hlen := encE_length l
    have eg : ∀ args w, (callFunc 164 args).run Tryz.prog w = .ok (.enter 164 args) w := enters_of Tryz.func164 (by kernel_rfl) rfl
    have hcmp : CmpLays Tryz.prog 164 #[] encE 2 cmpE b 0 l.toArray.size w := by
      intro m os dk _ x y
      have := less_c (x := x) (y := y) (w := Proofs.sortWorldK encE 2 w b 0 m dk os) (K := fun r w' => r = cmpE x y ∧ ∃ q os', w' = Sort.grow ((Proofs.sortWorldK encE 2 w b 0 m dk os).drewN q) os') ⟨rfl, 0, _, by rw [Sort.alloc_eq_grow, Sort.alloc_eq_grow, Sort.grow_grow]; rfl⟩
      refine Calls.mono this ?_
      rintro e w' ⟨_, r, rfl, rfl, hw⟩
      exact ⟨rfl, hw⟩
    have hH : Sort.HoldsK encE 2 w b 0 l.toArray := by
      intro j hj
      have hj' : j < (l.flatMap encE).length := by rw [hlen]; simpa using hj
      rw [Nat.zero_add, h1.cell, h1.frozen]
      refine ⟨?_, rfl⟩
      rw [List.getElem?_toArray, List.getElem?_append_left hj', List.getElem?_eq_getElem hj']
      have : (Sort.flatK encE 2 l.toArray)[j]! = (l.flatMap encE)[j] := by
        rw [getElem!_pos _ j hj, ← Array.getElem_toList]
        exact List.getElem_of_eq (flatK_encE l) _
      rw [this]; rfl
    have hcon := AnyQ.slices_SortFunc_eq Tryz.sortF 2 Tryz.isAgg56 Tryz.sizeOf56 encE (fun _ => rfl) (fun x v hv => by simp [encE] at hv; rcases hv with rfl | rfl <;> rfl) cmpE swoE 164 #[] b 0 s.c l.toArray w eg hcmp hH h1.lt (by simp; omega)
    change Calls Tryz.prog 163 _ _ _ at hcon
    unfold c_slices_SortFunc_api_Extent_api_Extent_at_ival_joined_1 callsR
    rw [hsa, hsn]
    refine Calls.mono hcon ?_
    rintro e w' ⟨rfl, n, os, hw⟩
    refine ⟨by rw [hw]; exact ⟨rfl, rfl, rfl⟩, (), rfl, hk _ ?_⟩
    obtain ⟨d, hd⟩ : ∃ d, Sort.pdq (ltOf cmpE) l.toArray 0 l.toArray.size (Lib.bitLen l.toArray.size) true true = d := ⟨_, rfl⟩
    rw [hd] at hw
    have hse : sortE l = d.toList := by unfold sortE; rw [← hd]; simp
    have hdl : d.toList.length = l.length := by rw [← hse, sortE_length]
    rw [hse]
    obtain ⟨a, sn, sc⟩ := s
    cases hsa
    simp only at hsn hsl hcap hvl
    refine ownS_mk (sp := sp) (t := t) ?_ (by rw [encE_length]; omega) hcap (by rw [encE_length] at hsl ⊢; omega)
    have hb := h1.get
    have hcells : Sort.putCells id 0 (Sort.flatK encE 2 d) (l.flatMap encE ++ sp).toArray = (d.toList.flatMap encE ++ sp).toArray := by
      have e1 : Sort.flatK encE 2 d = (d.toList.flatMap encE).toArray := by
        rw [← flatK_encE d.toList]
      rw [e1]
      exact putCells_row _ _ _ (by rw [encE_length, encE_length]; omega)
    have h2 : Sat (pt b (.cells (d.toList.flatMap encE ++ sp).toArray t (0, 0)) * R) (Sort.putRowK encE 2 (Sort.ahead w n) b 0 d) := by
      refine h1.change ?_ fun c hc => ?_
      · rw [← hcells]
        simp [Sort.putRowK, Sort.putRow, Sort.mapBlock, Sort.ahead, Array.getElem?_modify, hb, Sort.onCells]
      · simp [Sort.putRowK, Sort.putRow, Sort.mapBlock, Sort.ahead, Array.getElem?_modify, Ne.symm hc]
    rw [hw]
    refine h2.grow fun c hc => ?_
    simp only [Proofs.sortWorldK, Sort.grow]
    rw [Array.getElem?_append_left hc]
end Go.Proofs.YtbolgpjcmchfoaaGreat
