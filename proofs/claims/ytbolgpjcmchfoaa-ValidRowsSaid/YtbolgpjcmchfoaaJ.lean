/- The law 'ValidRows', walked. -/
import Derived.Test.YtbolgpjcmchfoaaI
namespace Go.Proofs.Ytbolgpjcmchfoaa
open Go Go.Vc Go.Sl Go.Mo
/-- Are transactions in order, behind a time? -/
def orderM (last : Int) : List Tx → Bool
  | [] => true
  | t :: r => if t.time ≤ last ∨ 1099511627776 < t.time ∨ riseM t.puts = false then false else orderM t.time r
theorem order_step {last : Int} {t : Tx} {r : List Tx} (h1 : ¬ t.time ≤ last) (h2 : ¬ 1099511627776 < t.time) (h3 : riseM t.puts = true) : orderM last (t :: r) = orderM t.time r := by
  simp only [orderM]
  rw [if_neg]
  rintro (h | h | h)
  · exact h1 h
  · exact h2 h
  · rw [h3] at h; cases h
theorem order_stop {last : Int} {t : Tx} {r : List Tx} (h : t.time ≤ last ∨ 1099511627776 < t.time ∨ riseM t.puts = false) : orderM last (t :: r) = false := by
  simp only [orderM]
  rw [if_pos h]
theorem rise_of {l : List Put} (h0 : 0 < l.length) (h : ∀ i (hi : i + 1 < l.length), l[i].lba < l[i + 1].lba) : riseM l = true := by
  unfold riseM
  rw [decide_eq_true_eq]
  exact ⟨h0, pairwise_adj fun i hi => by simp only [List.getElem_map]; exact h i (by simpa using hi)⟩
theorem rise_not {l : List Put} {i : Nat} (hi : i + 1 < l.length) (h : l[i + 1].lba ≤ l[i].lba) : riseM l = false := by
  unfold riseM
  rw [decide_eq_false_iff_not]
  rintro ⟨_, hp⟩
  have := List.pairwise_iff_getElem.1 hp i (i + 1) (by simpa using Nat.lt_of_succ_lt hi) (by simpa using hi) (by omega)
  simp only [List.getElem_map] at this
  omega
theorem order_c {s : SV} {l : List Tx} {w : World} {K : Bool → World → Prop} (hl : txsOn (hp w) s l) (hn : l.length ≤ 2 ^ 40 ∧ ∀ t ∈ l, t.puts.length ≤ 2 ^ 40) (hk : ∀ w', Keep w w' → K (orderM 0 l) w') : c_valid_Order s w K := by
  refine valid_Order_go ?_
  unfold f_valid_Order
  have hsn := hl.1
  refine loop_i (fun (x : Bool × Int × Int) w' => ∃ i : Nat, x.2.2 = i ∧ i ≤ l.length ∧ Keep w w' ∧ orderM 0 l = orderM x.2.1 (l.drop i)) (fun x _ => (l.length - x.2.2).toNat) ⟨0, rfl, by omega, Keep.refl w, rfl⟩ ?_
  rintro ⟨y, last, x⟩ w2 ⟨i, hx, hi, kw, hf⟩
  simp only at hx hf; subst hx
  dsimp only
  rw [hsn]
  refine bsplit_decide.2 ⟨fun hlt => ?_, fun hge => ?_⟩
  · have hi' : i < l.length := by omega
    have hd : l.drop i = l[i] :: l.drop (i + 1) := List.drop_eq_getElem_cons hi'
    rw [hd] at hf
    obtain ⟨ad, d, ha, g1, g2, g3⟩ := (txsOn_le (keep_le kw) hl).2 i hi'
    have hpl := hn.2 _ (List.getElem_mem hi')
    generalize l[i] = t at hf g1 g3 hpl
    refine ⟨by omega, by omega, onP_i ha ⟨(t.time, d), ⟨g1, g2⟩, ?_⟩⟩
    refine box2 (sat_whole w2) fun w7 k7 h7 => ?_
    generalize w2.heap.size = tb at h7 ⊢
    have c7 := (objA_cells h7).1
    have k27 := kw.trans k7
    have hdn := g3.1
    have stop : (t.time ≤ last ∨ 1099511627776 < t.time ∨ riseM t.puts = false) → ∀ w', Keep w w' → K false w' := fun h w' k => by
      have := hk w' k
      rw [hf, order_stop h] at this
      exact this
    refine ⟨t.time, c7 0, bsplit_decide.2 ⟨fun b => stop (.inl b) _ k27, fun b1 => ⟨t.time, c7 0, bsplit_decide.2 ⟨fun b => stop (.inr (.inl b)) _ k27, fun b2 => ⟨d, by rw [add_mk]; exact c7 1, ?_⟩⟩⟩⟩⟩
    rw [hdn]
    refine bsplit_decide.2 ⟨fun b => stop (.inr (.inr (by
      have : t.puts = [] := List.length_eq_zero_iff.1 (by omega)
      rw [this]; rfl))) _ k27, fun b3 => ⟨t.time, c7 0, ?_⟩⟩
    refine loop_i (fun (x : Bool × Int) w' => ∃ j : Nat, x.2 = (j : Int) + 1 ∧ j + 1 ≤ t.puts.length ∧ Keep w7 w' ∧ ∀ m (hm : m + 1 < t.puts.length), m < j → t.puts[m].lba < t.puts[m + 1].lba) (fun x _ => (t.puts.length - x.2).toNat) ⟨0, rfl, by omega, Keep.refl w7, fun m _ h => by omega⟩ ?_
    rintro ⟨y', x⟩ w13 ⟨j, hx, hj, k13, hr⟩
    simp only at hx; subst hx
    dsimp only
    have c13 : ∀ (w' : World), Keep w13 w' → w'.cell? ((⟨tb, 0, none⟩ : Addr).add 1) = some (.slice d.a d.n d.c) := fun w' k => by rw [add_mk]; exact keep_cell (k13.trans k) (c7 1)
    refine ⟨d, c13 _ (Keep.refl _), ?_⟩
    rw [hdn]
    refine bsplit_decide.2 ⟨fun hjl => ?_, fun hjl => ?_⟩
    · have hj1 : j + 1 < t.puts.length := by omega
      rw [withW_iff]
      have k16 := Keep.drew w13
      have kk := k27.trans (k13.trans k16)
      refine ⟨d, c13 _ k16, ?_⟩
      rw [hdn]
      obtain ⟨ad1, _, e1, v1, _, _⟩ := (putsOn_le (keep_le (k7.trans (k13.trans k16))) g3).2 (j + 1) hj1
      obtain ⟨ad0, _, e0, v0, _, _⟩ := (putsOn_le (keep_le (k7.trans (k13.trans k16))) g3).2 j (by omega)
      have e2 : IntKind.i64.wrap ((j : Int) + 1 - 1) = (j : Int) := by rw [wrap_of (by omega) (by omega)]; omega
      have e3 : ((j : Int) + 1).toNat = j + 1 := by omega
      refine ⟨by omega, by omega, onP_i e1 ⟨t.puts[j + 1].lba, by rw [e3]; exact v1, d, c13 _ k16, ?_⟩⟩
      rw [e2, hdn]
      refine ⟨by omega, by omega, onP_i e0 ⟨t.puts[j].lba, by rw [Int.toNat_natCast]; exact v0, ?_⟩⟩
      have e4 : IntKind.i64.wrap ((j : Int) + 1 + 1) = ((j + 1 : Nat) : Int) + 1 := by rw [wrap_of (by omega) (by omega)]; omega
      refine bsplit_decide.2 ⟨fun b => stop (.inr (.inr (rise_not hj1 b))) _ kk, fun b => ⟨⟨j + 1, e4, by omega, k13.trans k16, fun m hm hmj => ?_⟩, by rw [e4]; omega⟩⟩
      by_cases hmj' : m = j
      · subst hmj'; omega
      · exact hr m hm (by omega)
    · have hjl' : j + 1 = t.puts.length := by omega
      have hrise : riseM t.puts = true := rise_of (by omega) fun m hm => hr m hm (by omega)
      rw [order_step b1 b2 hrise] at hf
      have e5 : IntKind.i64.wrap ((i : Int) + 1) = ((i + 1 : Nat) : Int) := by rw [wrap_of (by omega) (by omega)]; omega
      exact ⟨⟨i + 1, e5, by omega, k27.trans k13, hf⟩, by rw [e5]; omega⟩
  · obtain rfl : i = l.length := by omega
    rw [List.drop_length] at hf
    have := hk w2 kw
    rw [hf] at this
    exact this
theorem rorder_c {s : SV} {l : List Tx} {w : World} {K : Bool → World → Prop} (hl : txsOn (hp w) s l) (hn : l.length ≤ 2 ^ 40 ∧ ∀ t ∈ l, t.puts.length ≤ 2 ^ 40) (hk : ∀ w', Keep w w' → K (orderM 0 l) w') : c_scarpref11_Order s w K := by
  refine scarpref11_Order_go ?_
  unfold f_scarpref11_Order
  have hsn := hl.1
  refine loop_i (fun (x : Bool × Int × Int) w' => ∃ i : Nat, x.2.2 = i ∧ i ≤ l.length ∧ Keep w w' ∧ orderM 0 l = orderM x.2.1 (l.drop i)) (fun x _ => (l.length - x.2.2).toNat) ⟨0, rfl, by omega, Keep.refl w, rfl⟩ ?_
  rintro ⟨y, last, x⟩ w2 ⟨i, hx, hi, kw, hf⟩
  simp only at hx hf; subst hx
  dsimp only
  rw [hsn]
  refine bsplit_decide.2 ⟨fun hlt => ?_, fun hge => ?_⟩
  · have hi' : i < l.length := by omega
    have hd : l.drop i = l[i] :: l.drop (i + 1) := List.drop_eq_getElem_cons hi'
    rw [hd] at hf
    obtain ⟨ad, d, ha, g1, g2, g3⟩ := (txsOn_le (keep_le kw) hl).2 i hi'
    have hpl := hn.2 _ (List.getElem_mem hi')
    generalize l[i] = t at hf g1 g3 hpl
    have hdn := g3.1
    have stop : (t.time ≤ last ∨ 1099511627776 < t.time ∨ riseM t.puts = false) → ∀ w', Keep w w' → K false w' := fun h w' k => by
      have := hk w' k
      rw [hf, order_stop h] at this
      exact this
    refine ⟨by omega, by omega, onP_i ha ⟨t.time, g1, bsplit_decide.2 ⟨fun b => stop (.inl b) _ kw, fun b1 => ⟨by omega, by omega, onP_i ha ⟨t.time, g1, bsplit_decide.2 ⟨fun b => stop (.inr (.inl b)) _ kw, fun b2 => ⟨by omega, by omega, onP_i ha ⟨d, g2, ?_⟩⟩⟩⟩⟩⟩⟩⟩
    rw [hdn]
    refine bsplit_decide.2 ⟨fun b => stop (.inr (.inr (by
      have : t.puts = [] := List.length_eq_zero_iff.1 (by omega)
      rw [this]; rfl))) _ kw, fun b3 => ⟨by omega, by omega, onP_i ha ⟨t.time, g1, ?_⟩⟩⟩
    refine loop_i (fun (x : Bool × Int) w' => ∃ j : Nat, x.2 = (j : Int) + 1 ∧ j + 1 ≤ t.puts.length ∧ Keep w2 w' ∧ ∀ m (hm : m + 1 < t.puts.length), m < j → t.puts[m].lba < t.puts[m + 1].lba) (fun x _ => (t.puts.length - x.2).toNat) ⟨0, rfl, by omega, Keep.refl w2, fun m _ h => by omega⟩ ?_
    rintro ⟨y', x⟩ w13 ⟨j, hx, hj, k13, hr⟩
    simp only at hx; subst hx
    dsimp only
    have c13 : ∀ (w' : World), Keep w13 w' → w'.cell? ((ad.add (((i : Nat) : Int).toNat * 2)).add 1) = some (.slice d.a d.n d.c) := fun w' k => keep_cell (k13.trans k) g2
    refine ⟨by omega, by omega, onP_i ha ⟨d, c13 _ (Keep.refl _), ?_⟩⟩
    rw [hdn]
    refine bsplit_decide.2 ⟨fun hjl => ?_, fun hjl => ?_⟩
    · have hj1 : j + 1 < t.puts.length := by omega
      rw [withW_iff]
      have k16 := Keep.drew w13
      have kk := kw.trans (k13.trans k16)
      refine ⟨by omega, by omega, onP_i ha ⟨d, c13 _ k16, ?_⟩⟩
      rw [hdn]
      obtain ⟨ad1, _, e1, v1, _, _⟩ := (putsOn_le (keep_le (k13.trans k16)) g3).2 (j + 1) hj1
      obtain ⟨ad0, _, e0, v0, _, _⟩ := (putsOn_le (keep_le (k13.trans k16)) g3).2 j (by omega)
      have e2 : IntKind.i64.wrap ((j : Int) + 1 - 1) = (j : Int) := by rw [wrap_of (by omega) (by omega)]; omega
      have e3 : ((j : Int) + 1).toNat = j + 1 := by omega
      refine ⟨by omega, by omega, onP_i e1 ⟨t.puts[j + 1].lba, by rw [e3]; exact v1, by omega, by omega, onP_i ha ⟨d, c13 _ k16, ?_⟩⟩⟩
      rw [e2, hdn]
      refine ⟨by omega, by omega, onP_i e0 ⟨t.puts[j].lba, by rw [Int.toNat_natCast]; exact v0, ?_⟩⟩
      have e4 : IntKind.i64.wrap ((j : Int) + 1 + 1) = ((j + 1 : Nat) : Int) + 1 := by rw [wrap_of (by omega) (by omega)]; omega
      refine bsplit_decide.2 ⟨fun b => stop (.inr (.inr (rise_not hj1 b))) _ kk, fun b => ⟨⟨j + 1, e4, by omega, k13.trans k16, fun m hm hmj => ?_⟩, by rw [e4]; omega⟩⟩
      by_cases hmj' : m = j
      · subst hmj'; omega
      · exact hr m hm (by omega)
    · have hjl' : j + 1 = t.puts.length := by omega
      have hrise : riseM t.puts = true := rise_of (by omega) fun m hm => hr m hm (by omega)
      rw [order_step b1 b2 hrise] at hf
      have e5 : IntKind.i64.wrap ((i : Int) + 1) = ((i + 1 : Nat) : Int) := by rw [wrap_of (by omega) (by omega)]; omega
      rw [withI_iff, e5]
      exact ⟨⟨i + 1, rfl, by omega, kw.trans k13, hf⟩, by omega⟩
  · obtain rfl : i = l.length := by omega
    rw [List.drop_length] at hf
    have := hk w2 kw
    rw [hf] at this
    exact this
/-! ### Orders, plainly -/
theorem order_mono : ∀ {l : List Tx} {a b : Int}, b ≤ a → orderM a l = true → orderM b l = true
  | [], _, _, _, _ => rfl
  | t :: r, a, b, h, ho => by
    simp only [orderM] at ho ⊢
    split at ho
    · cases ho
    · rename_i hn
      rw [if_neg fun h' => hn (by rcases h' with h' | h'; exact .inl (by omega); exact .inr h')]
      exact ho
theorem order_take : ∀ {l : List Tx} {a : Int} (n : Nat), orderM a l = true → orderM a (l.take n) = true
  | [], _, _, _ => by simp [orderM]
  | t :: r, a, 0, _ => rfl
  | t :: r, a, n + 1, ho => by
    simp only [List.take_succ_cons, orderM] at ho ⊢
    split at ho
    · cases ho
    · rename_i hn
      rw [if_neg hn]
      exact order_take n ho
theorem order_tail {l : List Tx} {a : Int} (ha : 0 ≤ a) (h : orderM a l = true) : orderM 0 (l.drop 1) = true := by
  cases l with
  | nil => rfl
  | cons t r =>
    simp only [orderM] at h
    split at h
    · cases h
    · exact order_mono (by omega) h
theorem order_times : ∀ {l : List Tx} {a : Int}, orderM a l = true → ∀ i (hi : i < l.length), a + i + 1 ≤ l[i].time
  | [], _, _, i, hi => by simp at hi
  | t :: r, a, h, i, hi => by
    simp only [orderM] at h
    split at h
    · cases h
    · rename_i hn
      cases i with
      | zero => simp only [List.getElem_cons_zero]; omega
      | succ i =>
        have := order_times h i (by simpa using hi)
        simp only [List.getElem_cons_succ]; omega
theorem order_lt : ∀ {l : List Tx} {a : Int}, orderM a l = true → ∀ i (hi : i + 1 < l.length), l[i].time < l[i + 1].time
  | [], _, _, i, hi => by simp at hi
  | t :: r, a, h, i, hi => by
    simp only [orderM] at h
    split at h
    · cases h
    · cases i with
      | zero => simp only [List.getElem_cons_zero, List.getElem_cons_succ]; have := order_times h 0 (by simpa using hi); omega
      | succ i => simp only [List.getElem_cons_succ]; exact order_lt h i (by simpa using hi)
theorem order_fall {l : List Tx} {a : Int} {i : Nat} (hi : i + 1 < l.length) (h : l[i + 1].time ≤ l[i].time) : orderM a l = false := by
  cases e : orderM a l with
  | false => rfl
  | true => have := order_lt e i hi; omega
end Go.Proofs.Ytbolgpjcmchfoaa
