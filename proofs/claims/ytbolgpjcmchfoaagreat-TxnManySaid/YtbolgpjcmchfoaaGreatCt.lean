/- Contracts: an extent's blocks at a time; a read of a view. -/
import Derived.Test.YtbolgpjcmchfoaaGreatCs
namespace Go.Proofs.YtbolgpjcmchfoaaGreat
open Go Go.Vc Go.Sl Go.Mo
theorem within_c {p : Option Addr} {M : XMap} {e : Ext} {R : HP} {w : World} {K : Bool → World → Prop} (h : Sat (xmapA p M * R) w) (hb : 1 ≤ M.blocks ∧ M.blocks ≤ 1048576) (hk : ∀ w', Keep w w' → K (within M e) w') : c_extmap_Map_within p e.first e.len w K := by
  obtain ⟨b, rfl⟩ := xmap_ptr h
  obtain ⟨r, h1⟩ := xmapA_open h
  refine extmap_Map_within_go ?_
  unfold f_extmap_Map_within
  rw [withW_iff, withW_iff]
  have h2 := (sat_whole w).alloc (.cells #[.int .i64 e.first, .int .i64 e.len] 56)
  have k2 : Keep w (w.alloc (.cells #[.int .i64 e.first, .int .i64 e.len] 56)).drew := (Keep.alloc _ _).trans (Keep.drew _)
  have c0 := h2.drew.cell 0
  have c1 := h2.drew.cell 1
  have hbl : (w.alloc (.cells #[.int .i64 e.first, .int .i64 e.len] 56)).drew.cell? ⟨b, 0, none⟩ = some (.int .i64 M.blocks) := keep_cell k2 ((objA_cells h1).1 0)
  have hk' := hk _ k2
  generalize (w.alloc (.cells #[.int .i64 e.first, .int .i64 e.len] 56)).drew = w3 at c0 c1 hbl hk' ⊢
  unfold within at hk'
  refine ⟨fun w' => w' = w3, rfl, e.first, fun w' e' => e' ▸ c0, bsplit_decide.2 ⟨fun h0 => ⟨e.len, fun w' e' => by subst e'; rw [add_mk]; exact c1, bsplit_decide.2 ⟨fun h1 => ⟨e.len, fun w' e' => by subst e'; rw [add_mk]; exact c1, ?_⟩, fun h1 => ?_⟩⟩, fun h0 => ?_⟩⟩
  · refine blocks_some hbl ⟨rfl, bsplit_decide.2 ⟨fun h2 => ⟨e.first, fun w' e' => e' ▸ c0, e.len, fun w' e' => by subst e'; rw [add_mk]; exact c1, blocks_some hbl ⟨rfl, ?_⟩⟩, fun h2 => ?_⟩⟩
    · rw [wrap_of (by omega) (by omega)]
      simpa [h0, h1, h2] using hk'
    · simpa [h0, h1, h2] using hk'
  · simpa [h0, h1] using hk'
  · simpa [h0] using hk'
theorem vers_len {B : Nat} {M : XMap} (ok : XOk B M) (k : Int) : (versOf M.vers k).length ≤ B ∧ ∀ x ∈ versOf M.vers k, x.data.length = 40 := by
  unfold versOf
  cases e : lkp M.vers k with
  | none => simp
  | some v => obtain ⟨_, _, a, b⟩ := ok.2.2 _ (lkp_mem e); exact ⟨a, b⟩
theorem get_length {B : Nat} {M : XMap} (ok : XOk B M) (k t : Int) : (M.get k t).length = 40 := valAt_length t (vers_len ok k).2
theorem flatMap_len {f : Int → List UInt8} : ∀ (l : List Int), (∀ k ∈ l, (f k).length = 40) → (l.flatMap f).length = l.length * 40
  | [], _ => rfl
  | k :: r, h => by
    rw [List.flatMap_cons, List.length_append, h k (by simp), flatMap_len r fun j hj => h j (by simp [hj]), List.length_cons]; omega
theorem blocksOf_length (e : Ext) : (blocksOf e).length = e.len.toNat := by simp [blocksOf]
theorem blocksOf_get {e : Ext} {i : Nat} (hi : i < (blocksOf e).length) : (blocksOf e)[i] = e.first + i := by simp [blocksOf]
theorem within_in {M : XMap} {e : Ext} (h : within M e = true) {i : Nat} (hi : (i : Int) < e.len) : inB M (e.first + i) = true := by
  unfold within at h
  simp only [Bool.and_eq_true, decide_eq_true_eq] at h
  simp [inB]; omega
theorem bytesV_append (a b : List UInt8) : bytesV (a ++ b) = bytesV a ++ bytesV b := by simp [bytesV]
theorem bytesV_length (a : List UInt8) : (bytesV a).length = a.length := by simp [bytesV]
theorem byteRow_append {s b : SV} {l m : List UInt8} {e : Nat} {R : HP} {w : World} {K : SV → World → Prop} (h : Sat (byteRow s l * R) w) (hb : bytesOn (hp w) b m) (hlen : l.length + m.length ≤ 2 ^ 36)
    (hk : ∀ s' w', Sat (byteRow s' (l ++ m) * R) w' → K s' w') : appendR s b 1 1 [.int .u8 0] e w K := by
  have hn : s.n = l.length := by have := ownS_length h; rw [bytesV_length] at this; omega
  refine append_own (news := bytesV m) h (by rw [bytesV_length, hb.1]; omega) (all_one_bytes m) (rowOn_cells hb.2) (fun hno => ?_) (by rw [hn, hb.1]; omega) (by omega) rfl fun s' w' _ hw' => hk s' w' (by unfold byteRow; rw [bytesV_append]; exact hw')
  have := hb.2.1 hno
  have h2 := bytesV_length m
  rw [this] at h2
  have := hb.1
  simp at h2; omega
theorem range_c {B : Nat} {p : Option Addr} {M : XMap} {e : Ext} {t : Int} {R : HP} {w : World} {K : SV × Int → World → Prop} (h : Sat (xmapA p M * R) w) (ok : XOk B M) (hB : B ≤ 2 ^ 31)
    (hk : ∀ s w', Sat (byteRow s (if within M e then M.range e t else []) * whole w) w' → K (s, if within M e then 0 else 2) w') : c_extmap_Map_Range p e.first e.len t w K := by
  refine extmap_Map_Range_go ?_
  unfold f_extmap_Map_Range
  rw [withW_iff]
  have h2 := (sat_whole w).alloc (.cells #[.int .i64 e.first, .int .i64 e.len] 56)
  have c0 := h2.cell 0
  have c1 := h2.cell 1
  have k2 : Keep w (w.alloc (.cells #[.int .i64 e.first, .int .i64 e.len] 56)) := Keep.alloc _ _
  generalize w.alloc (.cells #[.int .i64 e.first, .int .i64 e.len] 56) = w1 at c0 c1 h2 k2 ⊢
  generalize w.heap.size = eb at c0 c1 h2 ⊢
  refine ⟨(e.first, e.len), ⟨c0, by rw [add_mk]; exact c1⟩, ?_⟩
  refine within_c (k2.sat h) ok.1 fun w4 k4 => ?_
  cases hin : within M e with
  | false =>
    rw [hin] at hk
    exact bsplit_iff.2 ⟨fun _ => hk _ _ (ownS_nil ((k2.trans k4).sat (sat_whole w)) rfl rfl), fun e => (by cases e)⟩
  | true =>
    rw [hin] at hk
    simp only [if_true] at hk
    refine bsplit_iff.2 ⟨fun e => (by cases e), fun _ => ⟨e.len, by rw [add_mk]; exact keep_cell k4 c1, ?_⟩⟩
    have hlen : 1 ≤ e.len ∧ e.len ≤ M.blocks ∧ 0 ≤ e.first ∧ e.first ≤ M.blocks - e.len := by
      unfold within at hin
      simp only [Bool.and_eq_true, decide_eq_true_eq] at hin
      omega
    have hb := ok.1
    have hbl := blocksOf_length e
    have h4 := k4.sat h2
    refine loop_i (fun (x : SV × Int) w' => ∃ i : Nat, x.2 = i ∧ i ≤ (blocksOf e).length ∧ Sat (byteRow x.1 (((blocksOf e).take i).flatMap fun k => M.get k t) * (pt eb (.cells #[.int .i64 e.first, .int .i64 e.len] 56) * whole w)) w') (fun x _ => (e.len - x.2).toNat)
      ⟨0, rfl, by omega, ownS_nil h4 rfl rfl⟩ ?_
    rintro ⟨s, x⟩ w7 ⟨i, hx, hi, hw⟩
    simp only at hx; subst hx
    dsimp only at hw ⊢
    refine bsplit_decide.2 ⟨fun hlt => ?_, fun hge => ?_⟩
    · have hi' : i < (blocksOf e).length := by omega
      refine ⟨e.first, hw.right.cell 0, ?_⟩
      rw [wrap_of (x := e.first + i) (by omega) (by omega)]
      have hv := vers_len ok (e.first + i)
      refine get_c ((Keep.whole hw.right.right).sat h) (by omega) (fun x hx => by rw [hv.2 x hx]; omega) (within_in hin hlt) fun s10 w11 h11 => ?_
      have h11' : Sat (byteRow s (((blocksOf e).take i).flatMap fun k => M.get k t) * (byteRow s10 (M.get (e.first + i) t) * (pt eb (.cells #[.int .i64 e.first, .int .i64 e.len] 56) * whole w))) w11 := (Sat.frame h11 hw).eq (by ac_rfl)
      have hgl := get_length ok (e.first + i) t
      have hfl := flatMap_len (f := fun k => M.get k t) ((blocksOf e).take i) fun k _ => get_length ok k t
      refine byteRow_append h11' (byteRow_on h11'.right.left) (by rw [hfl, hgl, List.length_take]; omega) fun s12 w13 h13 => ?_
      have e1 : IntKind.i64.wrap ((i : Int) + 1) = ((i + 1 : Nat) : Int) := by rw [wrap_of (by omega) (by omega)]; omega
      refine ⟨⟨i + 1, e1, by omega, ?_⟩, by rw [e1]; omega⟩
      rw [List.take_succ_eq_append_getElem hi', List.flatMap_append, blocksOf_get hi']
      simp only [List.flatMap_cons, List.flatMap_nil, List.append_nil]
      exact (h13.eq (by ac_rfl : _ = byteRow s10 (M.get (e.first + i) t) * (byteRow s12 ((((blocksOf e).take i).flatMap fun k => M.get k t) ++ M.get (e.first + i) t) * (pt eb (.cells #[.int .i64 e.first, .int .i64 e.len] 56) * whole w)))).right
    · obtain rfl : i = (blocksOf e).length := by omega
      rw [List.take_length] at hw
      refine hk _ _ ?_
      unfold XMap.range
      exact (hw.eq (by ac_rfl : _ = pt eb (.cells #[.int .i64 e.first, .int .i64 e.len] 56) * (byteRow s ((blocksOf e).flatMap fun k => M.get k t) * whole w))).right
/-! ### What was read -/
theorem readsA_open {s : SV} {l : List Rd} {R : HP} {w : World} (h : Sat (readsA s l * R) w) : ∃ xs : List (SV × Rd), xs.map Prod.snd = l ∧ Sat (ownS 3 s (xs.flatMap fun x => [.int .i64 x.2.lba, slv x.1, .bool x.2.own]) * (all xs (fun x => byteRow x.1 x.2.data) * R)) w := by
  simp only [readsA, ex_mul, mul_assoc', sat_ex, sat_lift] at h
  exact h
theorem readsA_close {s : SV} {xs : List (SV × Rd)} {R : HP} {w : World} (h : Sat (ownS 3 s (xs.flatMap fun x => [.int .i64 x.2.lba, slv x.1, .bool x.2.own]) * (all xs (fun x => byteRow x.1 x.2.data) * R)) w) : Sat (readsA s (xs.map Prod.snd) * R) w := by
  simp only [readsA, ex_mul, mul_assoc', sat_ex, sat_lift]
  exact ⟨xs, rfl, h⟩
theorem flat3_length {α : Type} (f g k : α → Value) (xs : List α) : (xs.flatMap fun x => [f x, g x, k x]).length = xs.length * 3 := by
  induction xs with
  | nil => rfl
  | cons x r ih => simp only [List.flatMap_cons, List.length_append, ih, List.length_cons, List.length_nil]; omega
theorem readsA_n {s : SV} {l : List Rd} {R : HP} {w : World} (h0 : Sat (readsA s l * R) w) : s.n = l.length := by
  obtain ⟨xs, rfl, h⟩ := readsA_open h0
  have := ownS_length h
  rw [flat3_length] at this
  simp; omega
theorem reads_push {s d : SV} {l : List Rd} {x : Rd} {e bk : Nat} {R : HP} {w : World} {K : SV → World → Prop} (h0 : Sat (readsA s l * (byteRow d x.data * R)) w)
    (hc : w.cell? ⟨bk, 0, none⟩ = some (.int .i64 x.lba) ∧ w.cell? ⟨bk, 1, none⟩ = some (slv d) ∧ w.cell? ⟨bk, 2, none⟩ = some (.bool x.own)) (hlen : l.length + 1 ≤ 2 ^ 36)
    (hk : ∀ s' w', Sat (readsA s' (l ++ [x]) * R) w' → K s' w') : appendR s ⟨some ⟨bk, 0, none⟩, 1, 1⟩ 3 40 [.int .i64 0, .slice none 0 0, .bool false] e w K := by
  have hn := readsA_n h0
  obtain ⟨xs, rfl, h⟩ := readsA_open h0
  refine append_own (news := [.int .i64 x.lba, slv d, .bool x.own]) h rfl rfl (fun ad had => ?_) (fun hno => by cases hno) (by rw [hn]; simp at hlen ⊢; omega) (by omega) rfl fun s' w' hs' hw' => ?_
  · cases had
    exact ⟨hc.1, hc.2.1, hc.2.2⟩
  · refine hk s' w' ?_
    have e : xs.map Prod.snd ++ [x] = (xs ++ [(d, x)]).map Prod.snd := by simp
    rw [e]
    refine readsA_close ?_
    rw [all_append]
    simp only [List.flatMap_append, List.flatMap_cons, List.flatMap_nil, List.append_nil, all, mul_one']
    exact hw'.eq (by ac_rfl)
theorem add_fail {S : XSet} {l : List Ext} (h : (S.add l).2 ≠ 0) : (S.add l).1 = S := by
  unfold XSet.add at h ⊢
  repeat' split
  all_goals first | rfl | (rename_i h1 h2 h3; simp [h1, h2, h3] at h)
end Go.Proofs.YtbolgpjcmchfoaaGreat
