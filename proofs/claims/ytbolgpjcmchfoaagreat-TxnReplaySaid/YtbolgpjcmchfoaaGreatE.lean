/- Contracts: sums that are held at a limit; two lists of puts. -/
import Derived.Test.YtbolgpjcmchfoaaGreatA
import Derived.Test.YtbolgpjcmchfoaaGreatF3
import Derived.Laws.Strings
namespace Go.Proofs.YtbolgpjcmchfoaaGreat
open Go Go.Vc Go.Sl Go.Mo
def intsOn (h : Heap) (s : SV) (l : List Int) : Prop := s.n = l.length ∧ ∀ i (hi : i < l.length), ∃ ad, s.a = some ad ∧ cellH h (ad.add i) = some (.int .i64 l[i])
def sumM (n : Int) : List Int → Int
  | [] => n
  | m :: r => if 1099511627776 < n ∨ 1099511627776 - n < m then 1099511627776 else sumM (n + m) r
theorem sum_c {n : Int} {l : List Int} {s : SV} {w : World} {K : Int → World → Prop} (hs : intsOn (hp w) s l) (hl : l.length ≤ 100) (hn : 0 ≤ n ∧ n ≤ 1099511627776) (h0 : ∀ x ∈ l, 0 ≤ x) (hk : K (sumM n l) w) : c_scarpalike_Sum n s w K := by
  refine scarpalike_Sum_go ?_
  unfold f_scarpalike_Sum
  have hsn := hs.1
  refine loop_i (fun (x : Int × Int × Int) w' => ∃ i : Nat, x.2.2 = i ∧ i ≤ l.length ∧ w' = w ∧ (0 ≤ x.2.1 ∧ x.2.1 ≤ 1099511627776) ∧ sumM n l = sumM x.2.1 (l.drop i)) (fun x _ => (l.length - x.2.2).toNat) ⟨0, rfl, by omega, rfl, hn, rfl⟩ ?_
  rintro ⟨y, m, x⟩ w1 ⟨i, hx, hi, rfl, hm, hf⟩
  simp only at hx hm hf; subst hx
  dsimp only
  rw [hsn]
  refine bsplit_decide.2 ⟨fun hlt => ?_, fun hge => ?_⟩
  · have hi' : i < l.length := by omega
    obtain ⟨ad, ha, hc⟩ := hs.2 i hi'
    have hx0 := h0 _ (List.getElem_mem hi')
    have hd : l.drop i = l[i] :: l.drop (i + 1) := List.drop_eq_getElem_cons hi'
    rw [hd] at hf
    simp only [sumM] at hf
    refine bsplit_decide.2 ⟨fun h => absurd h (by omega), fun _ => ⟨by omega, by omega, onP_i ha ⟨l[i], by rw [Int.toNat_natCast, Nat.mul_one]; exact hc, ?_⟩⟩⟩
    rw [wrap_of (x := 1099511627776 - m) (by omega) (by omega)]
    refine bsplit_decide.2 ⟨fun h => ?_, fun h => ⟨by omega, by omega, onP_i ha ⟨l[i], by rw [Int.toNat_natCast, Nat.mul_one]; exact hc, ?_⟩⟩⟩
    · rw [if_pos (.inr h)] at hf
      rw [hf] at hk; exact hk
    · rw [if_neg (by omega)] at hf
      rw [withI_iff, withI_iff, wrap_of (x := m + l[i]) (by omega) (by omega), wrap_of (x := (i : Int) + 1) (by omega) (by omega)]
      exact ⟨⟨i + 1, by omega, by omega, rfl, by omega, hf⟩, by omega⟩
  · obtain rfl : i = l.length := by omega
    rw [List.drop_length] at hf
    rw [hf] at hk; exact hk
theorem sumM_bounds : ∀ (l : List Int) (n : Int), 0 ≤ n → n ≤ 1099511627776 → (∀ x ∈ l, 0 ≤ x) → n ≤ sumM n l ∧ sumM n l ≤ 1099511627776
  | [], n, _, h, _ => ⟨Int.le_refl _, h⟩
  | m :: r, n, h0, h1, h2 => by
    simp only [sumM]
    have hm := h2 m (by simp)
    split
    · omega
    · have := sumM_bounds r (n + m) (by omega) (by omega) fun x hx => h2 x (by simp [hx])
      omega
theorem sumM_each : ∀ (l : List Int) (n t : Int), 0 ≤ n → n ≤ 1099511627776 → (∀ x ∈ l, 0 ≤ x) → sumM n l ≤ t → t < 1099511627776 → ∀ x ∈ l, x ≤ t
  | [], _, _, _, _, _, _, _, _, hx => by simp at hx
  | m :: r, n, t, h0, h1, h2, h3, h4, x, hx => by
    simp only [sumM] at h3
    have hm := h2 m (by simp)
    split at h3
    · omega
    · have hb := sumM_bounds r (n + m) (by omega) (by omega) fun x hx => h2 x (by simp [hx])
      rcases List.mem_cons.1 hx with e | e
      · subst e; omega
      · exact sumM_each r (n + m) t (by omega) (by omega) (fun x hx => h2 x (by simp [hx])) h3 h4 x e
theorem ints_one {b t c n : Nat} {k : Int} {R : HP} {w : World} (h : Sat (pt b (.cells #[.int .i64 k] t) * R) w) (hn : n = 1) : intsOn (hp w) ⟨some ⟨b, 0, none⟩, n, c⟩ [k] := by
  subst hn
  refine ⟨rfl, fun i hi => ?_⟩
  obtain rfl : i = 0 := by simpa using hi
  exact ⟨⟨b, 0, none⟩, rfl, h.cell 0⟩
theorem ints_two {b t c n : Nat} {k j : Int} {R : HP} {w : World} (h : Sat (pt b (.cells #[.int .i64 k, .int .i64 j] t) * R) w) (hn : n = 2) : intsOn (hp w) ⟨some ⟨b, 0, none⟩, n, c⟩ [k, j] := by
  subst hn
  refine ⟨rfl, fun i hi => ?_⟩
  match i, hi with
  | 0, _ => exact ⟨⟨b, 0, none⟩, rfl, h.cell 0⟩
  | 1, _ => exact ⟨⟨b, 0, none⟩, rfl, h.cell 1⟩
/-- How many bytes some puts have: what is not above the limit has not too many. -/
theorem puts_size {l : List Put} {s : SV} {top : Int} {w : World} {K : Int → World → Prop} (hs : putsOn (hp w) s l) (ht : 0 ≤ top ∧ top ≤ 2 ^ 30) (hk : ∀ r w', Keep w w' → 0 ≤ r → r ≤ 1099511627776 → (r ≤ top → (l.length : Int) ≤ top ∧ ∀ x ∈ l, (x.data.length : Int) ≤ top) → K r w') : c_scarpalike_Puts s top w K := by
  refine scarpalike_Puts_go ?_
  unfold f_scarpalike_Puts
  have hsn := hs.1
  rw [withW_iff]
  have h1 := (sat_whole w).alloc (.cells #[.int .i64 ((s.n : Nat) : Int)] 3)
  have k1 := Keep.alloc w (.cells #[.int .i64 ((s.n : Nat) : Int)] 3)
  generalize w.alloc (.cells #[.int .i64 ((s.n : Nat) : Int)] 3) = w1 at h1 k1 ⊢
  refine sum_c (l := [((s.n : Nat) : Int)]) (ints_one h1 rfl) (by simp) (by omega) (by simp) ?_
  have hb := sumM_bounds [((s.n : Nat) : Int)] 0 (by omega) (by omega) (by simp)
  have he := sumM_each [((s.n : Nat) : Int)] 0 top (by omega) (by omega) (by simp)
  refine loop_i (fun (x : Int × Int) w' => ∃ i : Nat, x.2 = i ∧ i ≤ l.length ∧ Keep w w' ∧ (0 ≤ x.1 ∧ x.1 ≤ 1099511627776) ∧ (x.1 ≤ top → (l.length : Int) ≤ top ∧ ∀ y ∈ l.take i, (y.data.length : Int) ≤ top)) (fun x _ => (l.length - x.2).toNat)
    ⟨0, rfl, by omega, k1, by simpa using hb, fun h => ⟨by have := he h (by omega) _ (List.mem_singleton.2 rfl); omega, by simp⟩⟩ ?_
  rintro ⟨m, x⟩ w5 ⟨i, hx, hi, kw, hm, hf⟩
  simp only at hx hm hf; subst hx
  dsimp only
  rw [hsn]
  refine bsplit_decide.2 ⟨fun hlt => ?_, fun hge => ?_⟩
  · have hi' : i < l.length := by omega
    refine bsplit_decide.2 ⟨fun hle => ?_, fun hgt => hk _ _ kw hm.1 hm.2 fun h => absurd h hgt⟩
    obtain ⟨ad, d, ha, _, hc2, hd⟩ := (putsOn_le (keep_le kw) hs).2 i hi'
    refine ⟨by omega, by omega, onP_i ha ⟨d, hc2, ?_⟩⟩
    rw [withW_iff]
    have h2 := (sat_whole w5).alloc (.cells #[.int .i64 ((d.n : Nat) : Int)] 3)
    have k2 := Keep.alloc w5 (.cells #[.int .i64 ((d.n : Nat) : Int)] 3)
    generalize w5.alloc (.cells #[.int .i64 ((d.n : Nat) : Int)] 3) = w6 at h2 k2 ⊢
    refine sum_c (l := [((d.n : Nat) : Int)]) (ints_one h2 rfl) (by simp) hm (by simp) ?_
    have hb' := sumM_bounds [((d.n : Nat) : Int)] m hm.1 hm.2 (by simp)
    have he' := sumM_each [((d.n : Nat) : Int)] m top hm.1 hm.2 (by simp)
    have e1 : IntKind.i64.wrap ((i : Int) + 1) = ((i + 1 : Nat) : Int) := by rw [wrap_of (by omega) (by omega)]; omega
    refine ⟨⟨i + 1, e1, by omega, kw.trans k2, by omega, fun h => ?_⟩, by rw [e1]; omega⟩
    obtain ⟨f1, f2⟩ := hf (by omega)
    refine ⟨f1, fun y hy => ?_⟩
    rw [List.take_succ_eq_append_getElem hi'] at hy
    rcases List.mem_append.1 hy with hy | hy
    · exact f2 y hy
    · simp only [List.mem_singleton] at hy; subst hy
      have := he' h (by omega) _ (List.mem_singleton.2 rfl)
      have := hd.1
      omega
  · obtain rfl : i = l.length := by omega
    rw [List.take_length] at hf
    exact hk _ _ kw hm.1 hm.2 hf
theorem sameputs_c {s t : SV} {l m : List Put} {w : World} {K : Bool → World → Prop} (hs : putsOn (hp w) s l) (ht : putsOn (hp w) t m) (hl : l.length ≤ 2 ^ 60) (hk : ∀ b w', Keep w w' → (b = true ↔ l = m) → K b w') : c_scarpref11_SamePuts s t w K := by
  refine scarpref11_SamePuts_go ?_
  unfold f_scarpref11_SamePuts
  have hsn := hs.1
  have htn := ht.1
  rw [hsn, htn]
  refine bsplit_iff.2 ⟨fun e => hk _ _ (Keep.refl w) ⟨fun h => (by cases h), fun h => ?_⟩, fun e => ?_⟩
  · subst h; simp at e
  have hlen : l.length = m.length := by have : ((l.length : Nat) : Int) = ((m.length : Nat) : Int) := by simpa using e
                                        omega
  refine loop_i (fun (x : Bool × Int) w' => ∃ i : Nat, x.2 = i ∧ i ≤ l.length ∧ Keep w w' ∧ l.take i = m.take i) (fun x _ => (l.length - x.2).toNat) ⟨0, rfl, by omega, Keep.refl w, rfl⟩ ?_
  rintro ⟨y, x⟩ w2 ⟨i, hx, hi, kw, hf⟩
  simp only at hx; subst hx
  dsimp only
  refine bsplit_decide.2 ⟨fun hlt => ?_, fun hge => ?_⟩
  · rw [withW_iff]
    have hi' : i < l.length := by omega
    have hj' : i < m.length := by omega
    have k4 := kw.trans (Keep.drew w2)
    obtain ⟨ad, d, ha, hc1, hc2, hd⟩ := (putsOn_le (keep_le k4) hs).2 i hi'
    obtain ⟨ad', d', ha', hc1', hc2', hd'⟩ := (putsOn_le (keep_le k4) ht).2 i hj'
    have hno : l[i] ≠ m[i] → (false = true ↔ l = m) := fun h => ⟨fun e => (by cases e), fun e => absurd (by subst e; rfl) h⟩
    refine ⟨by omega, by omega, onP_i ha ⟨l[i].lba, hc1, by omega, by omega, onP_i ha' ⟨m[i].lba, hc1', bsplit_iff.2 ⟨fun e => hk _ _ k4 (hno fun h => by simp [h] at e), fun e => ?_⟩⟩⟩⟩
    have elba : l[i].lba = m[i].lba := by simpa using e
    refine ⟨by omega, by omega, onP_i ha ⟨d, hc2, l[i].data, hd.1.symm, fun ad0 h0 => rowOn_cells hd.2 ad0 h0, fun h0 => ?_, by omega, by omega, onP_i ha' ⟨d', hc2', m[i].data, hd'.1.symm, fun ad0 h0 => rowOn_cells hd'.2 ad0 h0, fun h0 => ?_, ?_⟩⟩⟩
    · have := hd.2.1 h0; simpa [bytesV] using this
    · have := hd'.2.1 h0; simpa [bytesV] using this
    · rw [ByteArray.toList_eq, ByteArray.toList_eq]
      refine bsplit_iff.2 ⟨fun e => hk _ _ k4 (hno fun h => by simp [h] at e), fun e => ?_⟩
      have edat : l[i].data = m[i].data := by simpa using e
      have e1 : IntKind.i64.wrap ((i : Int) + 1) = ((i + 1 : Nat) : Int) := by rw [wrap_of (by omega) (by omega)]; omega
      refine ⟨⟨i + 1, e1, by omega, k4, ?_⟩, by rw [e1]; omega⟩
      rw [List.take_succ_eq_append_getElem hi', List.take_succ_eq_append_getElem hj', hf]
      congr 2
      cases hA : l[i]; cases hB : m[i]
      rw [hA, hB] at elba edat
      simp only at elba edat
      rw [elba, edat]
  · obtain rfl : i = l.length := by omega
    refine hk _ _ kw ⟨fun _ => ?_, fun _ => rfl⟩
    rw [List.take_length] at hf
    rw [hf, hlen, List.take_length]
end Go.Proofs.YtbolgpjcmchfoaaGreat
