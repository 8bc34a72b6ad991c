/- The law 'TxnFails', walked. -/
import Derived.Test.YtbolgpjcmchfoaaGreatLg
namespace Go.Proofs.YtbolgpjcmchfoaaGreat
open Go Go.Vc Go.Sl Go.Mo
def txOf (j : Nat) : Tx := ⟨((j + 1 : Nat) : Int), [⟨(j : Int), blockB 40 j⟩]⟩
theorem zip_fst {α β : Type} : ∀ (a : List α) (b : List β), a.length = b.length → (a.zip b).map Prod.fst = a
  | [], _, _ => rfl
  | x :: r, [], h => by simp at h
  | x :: r, y :: s, h => by simp only [List.zip_cons_cons, List.map_cons]; rw [zip_fst r s (by simpa using h)]
theorem mem_drop_range {n k j : Nat} (h : j ∈ (List.range n).drop k) : k ≤ j ∧ j < n := by
  obtain ⟨i, hi, rfl⟩ := List.getElem_of_mem h
  rw [List.getElem_drop, List.getElem_range]
  simp only [List.length_drop, List.length_range] at hi
  omega
/-- Behind a batch that failed. -/
structure Failed (n k : Nat) (code : Int) (M : Mgr) : Prop where
  m : M.m = ⟨20, [], 0⟩
  out : M.out = 0
  num : M.num = 0
  last : M.last = 0
  queue : M.queue = ((List.range n).drop k).map fun j => ((j + 1 : Nat) : Int)
  ended : ∀ j, j < k → ∃ T, lkp M.all ((j + 1 : Nat) : Int) = some T ∧ T.state = 4 ∧ T.time = 0 ∧ T.code = code
  waits : ∀ j, k ≤ j → j < n → ∃ T, lkp M.all ((j + 1 : Nat) : Int) = some T ∧ T.state = 2 ∧ T.time = ((j + 1 : Nat) : Int) ∧ T.buf.data = [((j : Int), blockB 40 j)]
theorem invF_batch {n : Nat} {M : Mgr} (I : InvF n M) (h1 : 1 ≤ n) : M.batch = ({ M with out := ((min n 8 : Nat) : Int) }, ((1, ((List.range n).map txOf).take (min n 8)), 0)) := by
  have hw := invF_waiting I
  have hf : formL M.waiting 0 0 = ((min n 8 : Nat) : Int) := by
    have := formL_ones M.waiting 0 (by rw [hw]; intro t ht; obtain ⟨j, _, rfl⟩ := List.mem_map.1 ht; rfl) (by omega)
    rw [hw] at this ⊢
    simpa using this
  have hq : M.queue.length = n := by rw [I.queue]; simp
  unfold Mgr.batch
  rw [if_neg (by rw [I.out]; omega), if_neg (by omega), hf, I.num, hw]
  rfl
theorem invF_done {n k : Nat} {M : Mgr} {code : Int} (I : InvF n M) (hk : k ≤ n) (hk0 : 1 ≤ k) (hc : code ≠ 0) : ∃ M2, Mgr.done { M with out := (k : Int) } code = (M2, 0) ∧ Failed n k code M2 := by
  have hw := invF_waiting I
  have hq := I.queue
  have hwl : M.waiting.length = n := by rw [hw]; simp
  have hql : M.queue.length = n := by rw [hq]; simp
  have hdone : Mgr.done { M with out := (k : Int) } code = ({ (((M.queue.take k).zip (M.waiting.take k)).foldl (doneOne code) { M with out := (k : Int) }) with num := if code = 0 then M.num + 1 else M.num, queue := M.queue.drop k, out := 0 }, 0) := by
    unfold Mgr.done
    rw [if_neg (by simp only; omega)]
    rfl
  rw [hdone]
  refine ⟨_, rfl, ?_⟩
  obtain ⟨f1, f2, f3⟩ := fold_fail hc ((M.queue.take k).zip (M.waiting.take k)) { M with out := (k : Int) }
  have hz : ((M.queue.take k).zip (M.waiting.take k)).map Prod.fst = (List.range k).map fun j => ((j + 1 : Nat) : Int) := by
    rw [zip_fst _ _ (by simp [hql, hwl]), hq, ← List.map_take, List.take_range, Nat.min_eq_left hk]
  rw [hz] at f3
  have hmem : ∀ j : Nat, ((j + 1 : Nat) : Int) ∈ ((List.range k).map fun j => ((j + 1 : Nat) : Int)) ↔ j < k := fun j => by
    rw [List.mem_map]
    constructor
    · rintro ⟨i, hi, e⟩; have := List.mem_range.1 hi; omega
    · intro h; exact ⟨j, List.mem_range.2 h, rfl⟩
  generalize ((M.queue.take k).zip (M.waiting.take k)).foldl (doneOne code) { M with out := (k : Int) } = M1 at f1 f2 f3
  refine ⟨f1.trans I.m, rfl, by simp only; rw [if_neg hc]; exact I.num, f2.trans I.last0, by simp only; rw [hq, List.map_drop], fun j hj => ?_, fun j hj hn => ?_⟩
  · obtain ⟨T, hT, _⟩ := I.trn j (by omega)
    refine ⟨{ T with state := 4, code := code, time := 0 }, ?_, rfl, rfl, rfl⟩
    simp only
    rw [f3, if_pos ((hmem j).2 hj)]
    simp only [hT, Option.map_some]
  · obtain ⟨T, hT, h⟩ := I.trn j hn
    refine ⟨T, ?_, h⟩
    simp only
    rw [f3, if_neg fun h => by have := (hmem j).1 h; omega]
    exact hT
theorem failed_waiting {n k : Nat} {code : Int} {M : Mgr} (I : Failed n k code M) : M.waiting = ((List.range n).drop k).map txOf := by
  unfold Mgr.waiting
  rw [I.queue, List.filterMap_map]
  refine filterMap_all _ fun j hj => ?_
  obtain ⟨a, b⟩ := mem_drop_range hj
  obtain ⟨T, hT, _, h2, h3⟩ := I.waits j a b
  simp only [Function.comp_def, hT, Option.map_some, h2, puts_one h3, txOf]
theorem failed_batch {n k : Nat} {code : Int} {M : Mgr} (I : Failed n k code M) (hkn : k < n) (h8 : n - k ≤ 8) : M.batch = ({ M with out := ((n - k : Nat) : Int) }, ((1, ((List.range n).drop k).map txOf), 0)) := by
  have hw := failed_waiting I
  have hf : formL M.waiting 0 0 = ((n - k : Nat) : Int) := by
    have := formL_ones M.waiting 0 (by rw [hw]; intro t ht; obtain ⟨j, _, rfl⟩ := List.mem_map.1 ht; rfl) (by omega)
    rw [hw] at this ⊢
    simp only [Int.natCast_zero] at this
    simp only [this, List.length_map, List.length_drop, List.length_range]
    congr 1; omega
  have hq : M.queue.length = n - k := by rw [I.queue]; simp
  unfold Mgr.batch
  rw [if_neg (by rw [I.out]; omega), if_neg (by omega), hf, I.num, hw]
  simp only [Int.toNat_natCast]
  rw [List.take_of_length_le (by simp)]
  rfl
theorem failed_done {n k : Nat} {code : Int} {M : Mgr} (I : Failed n k code M) (hkn : k < n) (h14 : n ≤ 14) : (Mgr.done { M with out := ((n - k : Nat) : Int) } 0).2 = 0 ∧ (Mgr.done { M with out := ((n - k : Nat) : Int) } 0).1.m.vers.length = n - k := by
  have hw := failed_waiting I
  have hq := I.queue
  have hdone : Mgr.done { M with out := ((n - k : Nat) : Int) } 0 = ({ (((M.queue.take (n - k)).zip (M.waiting.take (n - k))).foldl (doneOne 0) { M with out := ((n - k : Nat) : Int) }) with num := M.num + 1, queue := M.queue.drop (n - k), out := 0 }, 0) := by
    unfold Mgr.done
    rw [if_neg (by simp only; omega)]
    simp only [Int.toNat_natCast]
    rfl
  rw [hdone]
  refine ⟨rfl, ?_⟩
  simp only
  have hql : M.queue.length = n - k := by rw [hq]; simp
  have hwl : M.waiting.length = n - k := by rw [hw]; simp
  rw [List.take_of_length_le (by omega), List.take_of_length_le (by omega)]
  have := fold_apply (M.queue.zip M.waiting) { M with out := ((n - k : Nat) : Int) } ((k + 1 : Nat) : Int) (by simp only; rw [I.m]; simp only; omega) (by simp only; rw [I.m]; simp) (fun i hi => ?_) (by omega) (by simp only [List.length_zip, hql, hwl]; rw [I.m]; simp only; omega) (by simp only; rw [I.m]; simp)
  · rw [this]
    simp only [List.length_zip, hql, hwl]
    rw [I.m]; simp
  · simp only [List.getElem_zip]
    have hi' : i < n - k := by simp only [List.length_zip, hql, hwl] at hi; omega
    have hx : M.waiting[i]'(by omega) = txOf (k + i) := by
      simp only [hw, List.getElem_map, List.getElem_drop, List.getElem_range]
    rw [hx]
    exact ⟨by simp only [txOf]; omega, blockB 40 ((k + i : Nat) : Int), by simp only [txOf]; congr 2; omega, blockB_length _ _⟩
theorem batch_n {s : SV} {txs : List Tx} {R : HP} {w : World} (h : Sat (batchA s txs * R) w) : s.n = txs.length := (batchA_on h).1
theorem fails_c {n code : Int} {w : World} {K : Bool → World → Prop} (hk : ∀ w', Keep w w' → K true w') : c_scarplaw23_TxnFails n code w K := by
  refine scarplaw23_TxnFails_go ?_
  unfold f_scarplaw23_TxnFails
  refine bsplit_decide.2 ⟨fun _ => awake_c hk, fun h1 => bsplit_decide.2 ⟨fun _ => awake_c hk, fun h2 => bsplit_decide.2 ⟨fun _ => awake_c hk, fun h3 => bsplit_decide.2 ⟨fun _ => awake_c hk, fun h4 => ?_⟩⟩⟩⟩
  refine mgr_new (n := 20) (last := 0) (sat_whole w) (by omega) (by omega) fun a w2 h => ?_
  refine bsplit_iff.2 ⟨fun e => (by cases e), fun _ => bsplit_iff.2 ⟨fun e => (by cases e), fun _ => ?_⟩⟩
  refine loop_i (fun (x : Bool × Int) w' => ∃ (i : Nat) (M : Mgr), x.2 = i ∧ (i : Int) ≤ n ∧ InvF i M ∧ MgrOk (2 * i) M ∧ Sat (mgrA (some ⟨a, 0, none⟩) M * whole w) w') (fun x _ => (n - x.2).toNat)
    ⟨0, Mgr.new 20 0, rfl, by omega, invF_new, mgrOk_new (by omega) (by omega), h⟩ ?_
  rintro ⟨y, x⟩ w12 ⟨i, M, hx, hi, I, ok, hw⟩
  simp only at hx; subst hx
  dsimp only
  refine bsplit_decide.2 ⟨fun hlt => ?_, fun hge => ?_⟩
  · have hi16 : i < 16 := by omega
    have hl0 := I.last0
    refine ok_begin hw ok (by omega) fun w15 ok15 h15 => ?_
    have hb := inv1_begin I.toInv1 hi16 (by omega)
    rw [hb] at h15 ok15 ⊢
    refine bsplit_iff.2 ⟨fun e => (by simp at e), fun _ => ?_⟩
    refine data_c h15 fun s w17 hs h17 => ?_
    rw [withW_iff]
    have h18 := h17.alloc (.cells #[.int .i64 (i : Int), .slice s.a s.n s.c] 33)
    have hdl : (blockB 40 (i : Int)).length = 40 := blockB_length _ _
    generalize w17.heap.size = bn at h18 ⊢
    have hwr := inv1_write (d := blockB 40 (i : Int)) I.toInv1 (by omega) hdl
    refine ok_write (l := [⟨i, blockB 40 (i : Int)⟩]) (h18.eq (by ac_rfl : _ = mgrA (some ⟨a, 0, none⟩) { M with book := ⟨16, i + 1, put M.book.times (i + 1) M.last⟩, all := put M.all (i + 1) (freshT M) } * (pt bn (.cells #[.int .i64 (i : Int), .slice s.a s.n s.c] 33) * (ownS 1 s (bytesV (blockB 40 (i : Int))) * whole w)))) ok15 (fun w' hw' => put1_on hw' rfl) (by simp) fun w20 ok20 h20 => ?_
    rw [hwr] at h20 ok20 ⊢
    refine bsplit_iff.2 ⟨fun e => (by simp at e), fun _ => ?_⟩
    refine ok_commit h20 ok20 (by omega) fun w22 ok22 h22 => ?_
    obtain ⟨I', e0⟩ := invF_next I (by omega)
    rw [e0]
    refine bsplit_iff.2 ⟨fun e => (by simp at e), fun _ => ?_⟩
    have e1 : IntKind.i64.wrap ((i : Int) + 1) = ((i + 1 : Nat) : Int) := by rw [wrap_of (by omega) (by omega)]; omega
    exact ⟨⟨i + 1, _, e1, by omega, I', ok22, (h22.eq (by ac_rfl : _ = (pt bn (.cells #[.int .i64 (i : Int), .slice s.a s.n s.c] 33) * ownS 1 s (bytesV (blockB 40 (i : Int)))) * (mgrA (some ⟨a, 0, none⟩) ((mid1 M i (blockB 40 i)).commit (i + 1)).1 * whole w))).right⟩, by rw [e1]; omega⟩
  · obtain rfl : (i : Int) = n := by omega
    refine ok_batch hw ok (by omega) fun s1 w24 ok24 h24 => ?_
    rw [invF_batch I (by omega)] at h24 ok24 ⊢
    refine box2 h24 fun w26 _ h26 => ?_
    generalize w24.heap.size = b1 at h26 ⊢
    have h26' : Sat (mgrA (some ⟨a, 0, none⟩) { M with out := ((min i 8 : Nat) : Int) } * (objA (some ⟨b1, 0, none⟩) [.int .i64 1, .slice s1.a s1.n s1.c] * (batchA s1 (((List.range i).map txOf).take (min i 8)) * whole w))) w26 := h26.eq (by ac_rfl)
    have hs1 : s1.n = min i 8 := by rw [batch_n (h26'.right.right)]; simp
    refine ok_batch h26' ok24 (by omega) fun s2 w28 ok28 h28 => ?_
    have hb2 : Mgr.batch { M with out := ((min i 8 : Nat) : Int) } = ({ M with out := ((min i 8 : Nat) : Int) }, ((0, []), 16)) := by
      unfold Mgr.batch
      rw [if_pos (by simp only; omega)]
    rw [hb2] at h28 ok28 ⊢
    refine box2 h28 fun w30 _ h30 => ?_
    generalize w28.heap.size = b2 at h30 ⊢
    refine bsplit_iff.2 ⟨fun e => (by simp at e), fun _ => bsplit_iff.2 ⟨fun e => (by simp at e), fun _ => ?_⟩⟩
    have h30' : Sat (mgrA (some ⟨a, 0, none⟩) { M with out := ((min i 8 : Nat) : Int) } * (objA (some ⟨b1, 0, none⟩) [.int .i64 1, .slice s1.a s1.n s1.c] * whole w)) w30 := by
      have := h30.eq (by ac_rfl : _ = (objA (some ⟨b2, 0, none⟩) [.int .i64 0, .slice s2.a s2.n s2.c] * (batchA s2 [] * batchA s1 (((List.range i).map txOf).take (min i 8)))) * (mgrA (some ⟨a, 0, none⟩) { M with out := ((min i 8 : Nat) : Int) } * (objA (some ⟨b1, 0, none⟩) [.int .i64 1, .slice s1.a s1.n s1.c] * whole w)))
      exact this.right
    refine ok_done h30' ok28 (by omega) fun w32 ok32 h32 => ?_
    obtain ⟨M2, hd2, J⟩ := invF_done (k := min i 8) (code := code) I (by omega) (by omega) (by omega)
    rw [hd2] at h32 ok32 ⊢
    refine bsplit_iff.2 ⟨fun e => (by simp at e), fun _ => ?_⟩
    refine ok_done h32 ok32 (by omega) fun w34 ok34 h34 => ?_
    have hd3 : M2.done 0 = (M2, 14) := by unfold Mgr.done; rw [if_pos J.out]
    rw [hd3] at h34 ok34 ⊢
    refine bsplit_iff.2 ⟨fun e => (by simp at e), fun _ => ?_⟩
    refine ⟨s1, by rw [add_mk]; exact (objA_cells h34.right).1 1, ?_⟩
    rw [hs1]
    refine loop_i (fun (x : Bool × Int) w' => ∃ h : Nat, x.2 = (h : Int) + 1 ∧ h ≤ i ∧ Sat (mgrA (some ⟨a, 0, none⟩) M2 * (objA (some ⟨b1, 0, none⟩) [.int .i64 1, .slice s1.a s1.n s1.c] * whole w)) w') (fun x _ => (i + 1 - x.2).toNat) ⟨0, rfl, by omega, h34⟩ ?_
    rintro ⟨y', x⟩ w37 ⟨h, hx, hh, h37⟩
    simp only at hx; subst hx
    dsimp only
    refine bsplit_decide.2 ⟨fun hle => ?_, fun hgt => ?_⟩
    · refine mgr_result h37 fun w40 k40 => ?_
      have e1 : IntKind.i64.wrap ((h : Int) + 1 + 1) = ((h + 1 : Nat) : Int) + 1 := by rw [wrap_of (by omega) (by omega)]; omega
      have nxt : (∃ h_1 : Nat, IntKind.i64.wrap ((h : Int) + 1 + 1) = (h_1 : Int) + 1 ∧ h_1 ≤ i ∧ Sat (mgrA (some ⟨a, 0, none⟩) M2 * (objA (some ⟨b1, 0, none⟩) [.int .i64 1, .slice s1.a s1.n s1.c] * whole w)) w40) ∧ ((i : Int) + 1 - IntKind.i64.wrap ((h : Int) + 1 + 1)).toNat < ((i : Int) + 1 - ((h : Int) + 1)).toNat :=
        ⟨⟨h + 1, e1, by omega, k40.sat h37⟩, by rw [e1]; omega⟩
      have eh : (h : Int) + 1 = ((h + 1 : Nat) : Int) := by omega
      by_cases hk8 : h < min i 8
      · obtain ⟨T, hT, t1, t2, t3⟩ := J.ended h hk8
        have hr : M2.result ((h : Int) + 1) = (4, 0, code) := by unfold Mgr.result; rw [eh, hT]; simp only [t1, t2, t3]
        rw [hr]
        refine bsplit_decide.2 ⟨fun _ => ?_, fun e => absurd (by omega) e⟩
        refine bsplit_iff.2 ⟨fun e => (by simp at e), fun _ => bsplit_iff.2 ⟨fun e => (by simp at e), fun _ => bsplit_iff.2 ⟨fun e => (by simp at e), fun _ => bsplit_decide.2 ⟨fun e => absurd e (by omega), fun _ => nxt⟩⟩⟩⟩
      · obtain ⟨T, hT, t1, t2, _⟩ := J.waits h (by omega) (by omega)
        have hr : (M2.result ((h : Int) + 1)).1 = 2 := by unfold Mgr.result; rw [eh, hT]; exact t1
        refine bsplit_decide.2 ⟨fun e => absurd e (by omega), fun _ => bsplit_decide.2 ⟨fun _ => ?_, fun e => absurd (by omega) e⟩⟩
        rw [hr]
        exact bsplit_iff.2 ⟨fun e => (by simp at e), fun _ => nxt⟩
    · refine mgr_last h37 ?_
      rw [J.last]
      refine bsplit_iff.2 ⟨fun e => (by simp at e), fun _ => ?_⟩
      refine ok_dump h37 ok34 (by omega) fun s3 w44 h44 => ?_
      have hs3 : s3.n = 0 := by rw [pairsA_n h44, dump_length, J.m]; rfl
      rw [hs3]
      refine bsplit_iff.2 ⟨fun e => (by simp at e), fun _ => ?_⟩
      have h45 := (Keep.whole h44.right).sat h37
      refine mgr_queue h45 ?_
      have hql : M2.queue.length = i - min i 8 := by rw [J.queue]; simp
      rw [hql, wrap_of (by omega) (by omega)]
      refine bsplit_iff.2 ⟨fun e => ?_, fun _ => ?_⟩
      · simp only [Bool.not_eq_true', decide_eq_false_iff_not] at e
        exact absurd (by omega) e
      refine ok_batch h45 ok34 (by omega) fun s4 w48 ok48 h48 => ?_
      by_cases hik : i ≤ 8
      · have hb4 : M2.batch = (M2, ((0, []), 14)) := by
          unfold Mgr.batch
          rw [if_neg (by rw [J.out]; omega), if_pos (by omega)]
        rw [hb4] at h48 ok48 ⊢
        refine box2 h48 fun w50 _ h50 => ?_
        refine bsplit_decide.2 ⟨fun _ => bsplit_decide.2 ⟨fun _ => ?_, fun e => absurd rfl e⟩, fun e => absurd (by omega) e⟩
        exact awake_c fun w52 k52 => hk _ ((Keep.whole h50.right.right.right.right).trans k52)
      · rw [failed_batch J (by omega) (by omega)] at h48 ok48 ⊢
        refine box2 h48 fun w50 _ h50 => ?_
        generalize w48.heap.size = b4 at h50 ⊢
        refine bsplit_decide.2 ⟨fun e => absurd e (by omega), fun _ => ?_⟩
        rw [withW_iff]
        have hs4 : s4.n = i - min i 8 := by rw [batch_n h50.right]; simp
        have h54 : Sat (mgrA (some ⟨a, 0, none⟩) { M2 with out := ((i - min i 8 : Nat) : Int) } * (objA (some ⟨b4, 0, none⟩) [.int .i64 1, .slice s4.a s4.n s4.c] * whole w)) w50.drew := by
          have := h50.drew.eq (by ac_rfl : _ = (batchA s4 (((List.range i).drop (min i 8)).map txOf) * objA (some ⟨b1, 0, none⟩) [.int .i64 1, .slice s1.a s1.n s1.c]) * (mgrA (some ⟨a, 0, none⟩) { M2 with out := ((i - min i 8 : Nat) : Int) } * (objA (some ⟨b4, 0, none⟩) [.int .i64 1, .slice s4.a s4.n s4.c] * whole w)))
          exact this.right
        have hc54 := (objA_cells h54.right).1
        refine ⟨fun w' => w'.cell? ⟨b4, 0, none⟩ = some (.int .i64 1) ∧ w'.cell? ⟨b4, 1, none⟩ = some (.slice s4.a s4.n s4.c), ⟨hc54 0, hc54 1⟩, bsplit_decide.2 ⟨fun _ => ⟨1, fun w' k => k.1, bsplit_decide.2 ⟨fun _ => ?_, fun e => absurd rfl e⟩⟩, fun e => absurd rfl e⟩⟩
        refine ok_done h54 ok48 (by omega) fun w58 ok58 h58 => ?_
        obtain ⟨d1, d2⟩ := failed_done J (by omega : min i 8 < i) (by omega)
        have hc58 := (objA_cells h58.right).1
        rw [d1]
        refine ⟨⟨hc58 0, hc58 1⟩, bsplit_decide.2 ⟨fun _ => ⟨s4, fun w' k => by rw [add_mk]; exact k.2, ?_⟩, fun e => absurd rfl e⟩⟩
        refine ok_dump h58 ok58 (by omega) fun s5 w62 h62 => ?_
        have hs5 : s5.n = i - min i 8 := by rw [pairsA_n h62, dump_length, d2]
        have k62 := Keep.whole h62.right
        have h63 := k62.sat h58
        have hc63 := (objA_cells h63.right).1
        refine ⟨⟨hc63 0, hc63 1⟩, bsplit_decide.2 ⟨fun _ => ?_, fun e => absurd (by rw [hs5, hs4]) e⟩⟩
        exact awake_c fun w64 k64 => ⟨⟨keep_cell k64 (hc63 0), keep_cell k64 (hc63 1)⟩, hk _ ((Keep.whole h63.right.right).trans k64)⟩
theorem fails_row (a0 a1 : Int) (w : World) : Calls Tryz.prog 5 #[.int .i64 a0, .int .i64 a1] w fun e w' => e = .returned (.bool true) ∧ RowKit.Below w.heap.size w w' := row_of (fails_c fun _ k => ⟨rfl, k⟩)
end Go.Proofs.YtbolgpjcmchfoaaGreat
