/- Contracts of the manager: the next batch. -/
import Derived.Test.YtbolgpjcmchfoaaGreatCo
namespace Go.Proofs.YtbolgpjcmchfoaaGreat
open Go Go.Vc Go.Sl Go.Mo
theorem formL_bounds : ∀ (l : List Tx) (a n : Int), n ≤ formL l a n ∧ formL l a n ≤ n + (l.length : Nat)
  | [], a, n => by simp [formL]
  | t :: r, a, n => by
    simp only [formL]
    split
    · simp; omega
    · have := formL_bounds r (a + (t.puts.length : Nat)) (n + 1)
      simp only [List.length_cons]; omega
theorem sub_zero {a : Option Addr} {c e : Nat} (ha : ∀ ad, a = some ad → ad.spot = none) : sub? a 0 c e = a := by
  unfold sub?
  split
  · rfl
  · cases a with
    | none => rfl
    | some ad =>
      have := ha ad rfl
      obtain ⟨b, o, s⟩ := ad
      simp only at this; subst this
      simp
theorem txsOn_take {h : Heap} {s : SV} {l : List Tx} (hl : txsOn h s l) {k : Nat} (hk : k ≤ l.length) (c : Nat) : txsOn h ⟨s.a, k, c⟩ (l.take k) := by
  refine ⟨by simp; omega, fun i hi => ?_⟩
  have hi' : i < l.length := by simp at hi; omega
  obtain ⟨ad, d, h1, h2, h3, h4⟩ := hl.2 i hi'
  exact ⟨ad, d, h1, by simpa using h2, h3, by simpa using h4⟩
/-- The first transactions of a row of one's own. -/
def batchA (s : SV) (txs : List Tx) : HP := ex fun sf : SV => ex fun l : List Tx => lift (txs = l.take s.n ∧ s.a = sf.a ∧ s.n ≤ l.length) * txsA sf l
theorem batchA_close {s sf : SV} {txs l : List Tx} {R : HP} {w : World} (h : Sat (txsA sf l * R) w) (h1 : txs = l.take s.n) (h2 : s.a = sf.a) (h3 : s.n ≤ l.length) : Sat (batchA s txs * R) w := by
  simp only [batchA, ex_mul, mul_assoc', sat_ex, sat_lift]
  exact ⟨sf, l, ⟨h1, h2, h3⟩, h⟩
theorem batchA_on {s : SV} {txs : List Tx} {R : HP} {w : World} (h : Sat (batchA s txs * R) w) : txsOn (hp w) s txs := by
  simp only [batchA, ex_mul, mul_assoc', sat_ex, sat_lift] at h
  obtain ⟨sf, l, ⟨h1, h2, h3⟩, h⟩ := h
  have := txsOn_take (txsA_on h.left) h3 s.c
  rw [← h1, ← h2] at this
  exact this
theorem pairsA_spot {β : Type} {num : β → Int} {A : SV → β → HP} {s : SV} {l : List β} {R : HP} {w : World} (h : Sat (pairsA num A s l * R) w) (hl : 0 < l.length) : ∃ b, s.a = some ⟨b, 0, none⟩ ∧ l.length ≤ s.c := by
  obtain ⟨b, d, hb, _⟩ := pairsA_get h hl
  refine ⟨b, hb, ?_⟩
  have hn := pairsA_n h
  obtain ⟨xs, rfl, h1⟩ := pairsA_open h
  rcases ownS_cases h1 with ⟨_, e, _⟩ | ⟨_, e, _⟩
  · omega
  · omega
theorem mgr_batch {p : Option Addr} {M : Mgr} {R : HP} {w : World} {K : (Int × SV) × Int → World → Prop} (h : Sat (mgrA p M * R) w) (ok : WaitOk M) (hnum : 0 ≤ M.num ∧ M.num ≤ 2 ^ 41)
    (hk : ∀ s' w', Sat (batchA s' M.batch.2.1.2 * (mgrA p M.batch.1 * R)) w' → K ((M.batch.2.1.1, s'), M.batch.2.2) w') : c_txn_Manager_Batch p w K := by
  obtain ⟨mp, bk, r, qs, xs, hx, h1⟩ := mgrA_open h
  obtain ⟨a, b, c, rfl, rfl, rfl⟩ := mgr_ptr h1
  refine txn_Manager_Batch_go ?_
  unfold f_txn_Manager_Batch
  rw [withW_iff]
  have h2 := objA_new (t := 42) (vs := [.int .i64 0, .slice none 0 0]) h1
  change Sat _ (w.alloc (.cells #[.int .i64 0, .slice none 0 0] 42)) at h2
  generalize w.alloc _ = w1 at h2 ⊢
  generalize w.heap.size = bx at h2 ⊢
  have h3 : Sat (objA (some ⟨a, 0, none⟩) (mcells (some ⟨b, 0, none⟩) (some ⟨c, 0, none⟩) r qs M) * _) w1 := h2.eq (by unfold mgrO; rw [mul_assoc', ← mul_assoc', mul_comm' (objA (some ⟨bx, 0, none⟩) _), mul_assoc'])
  -- an answer without transactions
  have no : ∀ (code : Int) (w3 : World), M.batch = (M, (0, []), code) → Sat (objA (some ⟨bx, 0, none⟩) [.int .i64 0, .slice none 0 0] * (mgrO (some ⟨a, 0, none⟩) (some ⟨b, 0, none⟩) (some ⟨c, 0, none⟩) r qs xs M * R)) w3 →
      ((((∃ u, w3.cell? (⟨bx, 0, none⟩ : Addr) = some u) ∧ w3.frozen? (⟨bx, 0, none⟩ : Addr) = false) ∧ ((∃ u, w3.cell? ((⟨bx, 0, none⟩ : Addr).add 1) = some u) ∧ w3.frozen? ((⟨bx, 0, none⟩ : Addr).add 1) = false)) ∧ (true = true) ∧
       (withW ((w3.setCell (⟨bx, 0, none⟩ : Addr) (.int .i64 0)).setCell ((⟨bx, 0, none⟩ : Addr).add 1) (.slice none 0 0)) fun w4 =>
        (∃ g5 : Int × SV, (w4.cell? (⟨bx, 0, none⟩ : Addr) = some (.int .i64 g5.1) ∧ w4.cell? ((⟨bx, 0, none⟩ : Addr).add 1) = some (.slice g5.2.a g5.2.n g5.2.c)) ∧
         K ((g5.1, ⟨g5.2.a, g5.2.n, g5.2.c⟩), code) w4))) := by
    intro code w3 hb hw
    obtain ⟨hc, hf⟩ := objA_cells hw
    rw [add_mk]
    have h4 := objA_set (objA_set hw 0 (.int .i64 0)) 1 (.slice none 0 0)
    refine ⟨⟨⟨⟨_, hc 0⟩, hf 0⟩, ⟨_, hc 1⟩, hf 1⟩, rfl, gen_w h4 fun w4 h4 => ⟨(0, ⟨none, 0, 0⟩), ⟨(objA_cells h4).1 0, (objA_cells h4).1 1⟩, ?_⟩⟩
    have := hk ⟨none, 0, 0⟩ w4
    rw [hb] at this
    exact this (batchA_close (sf := ⟨none, 0, 0⟩) (l := []) (pairsA_nil (mgrA_close h4.right hx) rfl rfl) rfl rfl (Nat.le_refl _))
  refine mgone_c h3 (bsplit_iff.2 ⟨fun e => (by cases e), fun _ => ?_⟩)
  rw [onP_some, add_mk]
  refine ⟨M.out, (objA_cells h3).1 4, bsplit_decide.2 ⟨fun ho => ?_, fun ho => ?_⟩⟩
  · exact no 16 w1 (by unfold Mgr.batch; rw [if_pos ho]) h2
  rw [onP_some, add_mk]
  have hqn : qs.n = M.queue.length := by
    obtain ⟨_, _, _, _, hqs, _⟩ := mgr_cells h1
    have := ownS_length hqs
    simp at this; omega
  refine ⟨qs, (objA_cells h3).1 3, bsplit_decide.2 ⟨fun hq => ?_, fun hq => ?_⟩⟩
  · exact no 14 w1 (by unfold Mgr.batch; rw [if_neg ho, if_pos (by omega)]) h2
  have hq0 : ¬ M.queue.length = 0 := by omega
  have hbatch : M.batch = ({ M with out := formL M.waiting 0 0 }, (M.num + 1, M.waiting.take (formL M.waiting 0 0).toNat), 0) := by unfold Mgr.batch; rw [if_neg ho, if_neg hq0]
  have hwl := waiting_len ok
  refine mgr_waiting h2.right hx ok fun x14 w15 h15 => ?_
  have hon := txsA_on h15.left
  refine form_c hon ⟨by rw [hwl]; exact ok.1, fun t ht => waiting_puts ok t ht⟩ fun w17 k17 => ?_
  have h17 : Sat (txsA x14 M.waiting * (objA (some ⟨bx, 0, none⟩) [.int .i64 0, .slice none 0 0] * (mgrO (some ⟨a, 0, none⟩) (some ⟨b, 0, none⟩) (some ⟨c, 0, none⟩) r qs xs M * R))) w17 := k17.sat (Sat.frame h15 h2)
  obtain ⟨f1, f2⟩ := formL_bounds M.waiting 0 0
  rw [onP_some, add_mk]
  have h18 : Sat (objA (some ⟨a, 0, none⟩) (mcells (some ⟨b, 0, none⟩) (some ⟨c, 0, none⟩) r qs M) * (txsA x14 M.waiting * (objA (some ⟨bx, 0, none⟩) [.int .i64 0, .slice none 0 0] * ((xmapA (some ⟨b, 0, none⟩) M.m * (bookA (some ⟨c, 0, none⟩) M.book * (mapA r (on2 (fun x => .pointer x.1) xs) * (Sl.all xs (fun x => trA (some ⟨b, 0, none⟩) x.2.1 x.2.2) * ownS 1 qs (M.queue.map intv))))) * R)))) w17 := h17.eq (by unfold mgrO; ac_rfl)
  refine objA_store (i := 4) h18 (by simp [mcells]) fun w19 h19 => ?_
  have hset : (mcells (some ⟨b, 0, none⟩) (some ⟨c, 0, none⟩) r qs M).set 4 (.int .i64 (formL M.waiting 0 0)) = mcells (some ⟨b, 0, none⟩) (some ⟨c, 0, none⟩) r qs { M with out := formL M.waiting 0 0 } := rfl
  rw [hset] at h19
  rw [withW_iff]
  have h20 := h19.drew
  refine ⟨fun w' => Sat (objA (some ⟨a, 0, none⟩) (mcells (some ⟨b, 0, none⟩) (some ⟨c, 0, none⟩) r qs { M with out := formL M.waiting 0 0 }) * 1) w', objA_only h20, ?_⟩
  simp only [onP_some, add_mk, Nat.zero_add]
  obtain ⟨bt, hbt, hcap⟩ := pairsA_spot h15 (by rw [hwl]; omega)
  refine ⟨M.num, fun w' hw => (objA_cells hw).1 5, formL M.waiting 0 0, fun w' hw => (objA_cells hw).1 4, by omega, by omega, by omega, ?_⟩
  have h21 : Sat (objA (some ⟨bx, 0, none⟩) [.int .i64 0, .slice none 0 0] * (objA (some ⟨a, 0, none⟩) (mcells (some ⟨b, 0, none⟩) (some ⟨c, 0, none⟩) r qs { M with out := formL M.waiting 0 0 }) * (txsA x14 M.waiting * ((xmapA (some ⟨b, 0, none⟩) M.m * (bookA (some ⟨c, 0, none⟩) M.book * (mapA r (on2 (fun x => .pointer x.1) xs) * (Sl.all xs (fun x => trA (some ⟨b, 0, none⟩) x.2.1 x.2.2) * ownS 1 qs (M.queue.map intv))))) * R)))) w19.drew := h20.eq (by ac_rfl)
  obtain ⟨hc, hf⟩ := objA_cells h21
  have hsub : sub? x14.a (0 : Int).toNat x14.c 2 = x14.a := sub_zero fun ad had => by rw [hbt] at had; cases had; rfl
  rw [hsub, wrap_of (by omega) (by omega)]
  have h22 := objA_set (objA_set h21 0 (.int .i64 (M.num + 1))) 1 (.slice x14.a ((formL M.waiting 0 0).toNat - (0 : Int).toNat) (x14.c - (0 : Int).toNat))
  refine ⟨⟨⟨⟨_, hc 0⟩, hf 0⟩, ⟨_, hc 1⟩, hf 1⟩, trivial, gen_w h22 fun w28 h28 => ⟨objA_only h28.right, (M.num + 1, ⟨x14.a, (formL M.waiting 0 0).toNat - (0 : Int).toNat, x14.c - (0 : Int).toNat⟩), ⟨(objA_cells h28).1 0, (objA_cells h28).1 1⟩, ?_⟩⟩
  have := hk ⟨x14.a, (formL M.waiting 0 0).toNat - (0 : Int).toNat, x14.c - (0 : Int).toNat⟩ w28
  rw [hbatch] at this
  refine this ?_
  have h29 : Sat (txsA x14 M.waiting * (mgrO (some ⟨a, 0, none⟩) (some ⟨b, 0, none⟩) (some ⟨c, 0, none⟩) r qs xs { M with out := formL M.waiting 0 0 } * R)) w28 := h28.right.eq (by unfold mgrO; ac_rfl)
  have h30 : Sat (txsA x14 M.waiting * (mgrA (some ⟨a, 0, none⟩) { M with out := formL M.waiting 0 0 } * R)) w28 := by
    have := mgrA_close (R := txsA x14 M.waiting * R) (M := { M with out := formL M.waiting 0 0 }) (h29.eq (by ac_rfl)) hx
    exact this.eq (by ac_rfl)
  exact batchA_close h30 (by simp) rfl (by simp; omega)
end Go.Proofs.YtbolgpjcmchfoaaGreat
