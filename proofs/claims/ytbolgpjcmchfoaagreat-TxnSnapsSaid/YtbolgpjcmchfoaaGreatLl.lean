/- The law 'TxnClash', walked. -/
import Derived.Test.YtbolgpjcmchfoaaGreatLg
import Derived.Test.YtbolgpjcmchfoaaGreatA
namespace Go.Proofs.YtbolgpjcmchfoaaGreat
open Go Go.Vc Go.Sl Go.Mo
theorem add_one {m : Int} (hm : 1 ≤ m) {k : Int} (hk : lbaOk k) : XSet.add ⟨m, []⟩ [⟨k, 1⟩] = (⟨m, [⟨k, 1⟩]⟩, 0) := by
  unfold lbaOk at hk
  have hy : may ⟨k, 1⟩ = true := by simp [may]; omega
  unfold XSet.add
  simp only [List.all_cons, List.all_nil, hy, Bool.and_self, Bool.true_eq_false, if_false, List.length_singleton, List.nil_append, joinM_one]
  rw [if_neg (by omega), if_neg (by simpa using hm)]
theorem written_one {M : XMap} {b k a : Int} {v : List Put} (hv : M.vers = [(b, v)]) (hk : lbaOk k) : M.written ⟨k, 1⟩ a = (decide (b = k) && decide (a < lastT v)) := by
  unfold lbaOk at hk
  have hy : may ⟨k, 1⟩ = true := by simp [may]; omega
  unfold XMap.written
  rw [hy, hv]
  simp only [List.any_cons, List.any_nil, Bool.or_false, Bool.true_and, hitV]
  by_cases h : b = k
  · subst h; simp
  · simp only [h, decide_false, Bool.false_and]
    rw [Bool.and_eq_false_iff]; left
    rw [Bool.and_eq_false_iff, decide_eq_false_iff_not, decide_eq_false_iff_not]
    omega
theorem hit_vers {M : XMap} {b k a m : Int} {v : List Put} (hv : M.vers = [(b, v)]) (hk : lbaOk k) : hitS M [] a ⟨m, [⟨k, 1⟩]⟩ = (decide (b = k) && decide (a < lastT v)) := by
  unfold hitS
  simp only [List.any_cons, List.any_nil, Bool.or_false, hitX]
  rw [if_neg (by omega), show k + 1 - 1 = k from by omega, written_one hv hk, Bool.or_self]
theorem has_one {k j m : Int} (hj : lbaOk j) : XSet.has ⟨m, [⟨k, 1⟩]⟩ j = decide (j = k) := by
  unfold lbaOk at hj
  have hy : may ⟨j, 1⟩ = true := by simp [may]; omega
  unfold XSet.has
  rw [hy]
  simp only [List.any_cons, List.any_nil, Bool.or_false, Bool.true_and, meet]
  by_cases h : j = k
  · subst h; simp; omega
  · simp only [h, decide_false]
    rw [Bool.and_eq_false_iff, decide_eq_false_iff_not, decide_eq_false_iff_not]
    omega
theorem hit_wait {M : XMap} {b k a m t : Int} {d : List UInt8} (hv : M.vers = []) (hb : lbaOk b) : hitS M [⟨t, [⟨b, d⟩]⟩] a ⟨m, [⟨k, 1⟩]⟩ = decide (b = k) := by
  rw [hitS_nil hv]
  simp only [List.any_cons, List.any_nil, Bool.or_false, againstM, has_one hb]
theorem viewSet_one {V : View} {k : Int} (h : V.set.l = [⟨k, 1⟩]) (hk : lbaOk k) : viewSet V = ⟨64, [⟨k, 1⟩]⟩ := by unfold viewSet; rw [h, add_one (by omega) hk]
theorem read_one {M : XMap} {B : Buf} {V : View} {k : Int} (h : V.set = ⟨64, []⟩) (hb : M.blocks ≤ 1048576) (hk : 0 ≤ k ∧ k < M.blocks) : View.read M B V ⟨k, 1⟩ = ({ V with set := ⟨64, [⟨k, 1⟩]⟩, reads := V.reads ++ [seenB M B V.at_ k] }, ((seenB M B V.at_ k).data, 0)) := by
  have hw : within M ⟨k, 1⟩ = true := by simp [within]; omega
  have hbo : blocksOf ⟨k, 1⟩ = [k] := by simp [blocksOf, List.range_succ]
  unfold View.read
  rw [if_neg (by simp), if_neg (by rw [hw]; simp), h, add_one (by omega) (by unfold lbaOk; omega), if_neg (by simp), hbo]
  simp
/-- One of the two transactions. -/
def ct (st tm code : Int) (dat : List (Int × List UInt8)) (set : List Ext) (rds : List Rd) : Trn := ⟨st, tm, code, 0, ⟨10, 16, dat⟩, ⟨0, ⟨64, set⟩, rds⟩⟩
def CM (T1 T2 : Trn) : Mgr := { Mgr.new 10 0 with book := ⟨16, 2, [(1, 0), (2, 0)]⟩, all := [(1, T1), (2, T2)] }
theorem cm_read1 {T2 : Trn} {a : Int} (ha : 0 ≤ a ∧ a < 10) : ∃ rd bs, (CM (ct 1 0 0 [] [] []) T2).readE 1 ⟨a, 1⟩ = (CM (ct 1 0 0 [] [⟨a, 1⟩] rd) T2, (bs, 0)) := by
  have hr := read_one (M := ⟨10, [], 0⟩) (B := ⟨10, 16, []⟩) (V := ⟨0, ⟨64, []⟩, []⟩) (k := a) rfl (by simp) ha
  refine ⟨[seenB ⟨10, [], 0⟩ ⟨10, 16, []⟩ 0 a], (seenB ⟨10, [], 0⟩ ⟨10, 16, []⟩ 0 a).data, ?_⟩
  unfold Mgr.readE
  have : (CM (ct 1 0 0 [] [] []) T2).opn 1 = some (ct 1 0 0 [] [] []) := rfl
  rw [this]
  show (({ CM (ct 1 0 0 [] [] []) T2 with all := put (CM (ct 1 0 0 [] [] []) T2).all 1 { ct 1 0 0 [] [] [] with view := (View.read ⟨10, [], 0⟩ ⟨10, 16, []⟩ ⟨0, ⟨64, []⟩, []⟩ ⟨a, 1⟩).1 } } : Mgr), (View.read ⟨10, [], 0⟩ ⟨10, 16, []⟩ ⟨0, ⟨64, []⟩, []⟩ ⟨a, 1⟩).2) = _
  rw [hr]
  rfl
theorem cm_read2 {T1 : Trn} {a : Int} (ha : 0 ≤ a ∧ a < 10) : ∃ rd bs, (CM T1 (ct 1 0 0 [] [] [])).readE 2 ⟨a, 1⟩ = (CM T1 (ct 1 0 0 [] [⟨a, 1⟩] rd), (bs, 0)) := by
  have hr := read_one (M := ⟨10, [], 0⟩) (B := ⟨10, 16, []⟩) (V := ⟨0, ⟨64, []⟩, []⟩) (k := a) rfl (by simp) ha
  refine ⟨[seenB ⟨10, [], 0⟩ ⟨10, 16, []⟩ 0 a], (seenB ⟨10, [], 0⟩ ⟨10, 16, []⟩ 0 a).data, ?_⟩
  unfold Mgr.readE
  have : (CM T1 (ct 1 0 0 [] [] [])).opn 2 = some (ct 1 0 0 [] [] []) := rfl
  rw [this]
  show (({ CM T1 (ct 1 0 0 [] [] []) with all := put (CM T1 (ct 1 0 0 [] [] [])).all 2 { ct 1 0 0 [] [] [] with view := (View.read ⟨10, [], 0⟩ ⟨10, 16, []⟩ ⟨0, ⟨64, []⟩, []⟩ ⟨a, 1⟩).1 } } : Mgr), (View.read ⟨10, [], 0⟩ ⟨10, 16, []⟩ ⟨0, ⟨64, []⟩, []⟩ ⟨a, 1⟩).2) = _
  rw [hr]
  rfl
theorem cm_write1 {T2 : Trn} {b : Int} {d : List UInt8} {set : List Ext} {rd : List Rd} (hb : 0 ≤ b ∧ b < 10) (hd : d.length = 40) : (CM (ct 1 0 0 [] set rd) T2).write 1 [⟨b, d⟩] = (CM (ct 1 0 0 [(b, d)] set rd) T2, 0) := by
  have h1 : outOf 10 ⟨b, d⟩ = false := by simp [outOf]; omega
  unfold Mgr.write
  have : (CM (ct 1 0 0 [] set rd) T2).opn 1 = some (ct 1 0 0 [] set rd) := rfl
  rw [this]
  have hw : Buf.write ⟨10, 16, []⟩ [⟨b, d⟩] = (⟨10, 16, [(b, d)]⟩, 0) := by simp [Buf.write, h1, badLen, hd, twiceM, newOnes, putsIn, put, lkp]
  show (({ CM (ct 1 0 0 [] set rd) T2 with all := put (CM (ct 1 0 0 [] set rd) T2).all 1 { ct 1 0 0 [] set rd with buf := (Buf.write ⟨10, 16, []⟩ [⟨b, d⟩]).1 } } : Mgr), (Buf.write ⟨10, 16, []⟩ [⟨b, d⟩]).2) = _
  rw [hw]; rfl
theorem cm_write2 {T1 : Trn} {b : Int} {d : List UInt8} {set : List Ext} {rd : List Rd} (hb : 0 ≤ b ∧ b < 10) (hd : d.length = 40) : (CM T1 (ct 1 0 0 [] set rd)).write 2 [⟨b, d⟩] = (CM T1 (ct 1 0 0 [(b, d)] set rd), 0) := by
  have h1 : outOf 10 ⟨b, d⟩ = false := by simp [outOf]; omega
  unfold Mgr.write
  have : (CM T1 (ct 1 0 0 [] set rd)).opn 2 = some (ct 1 0 0 [] set rd) := rfl
  rw [this]
  have hw : Buf.write ⟨10, 16, []⟩ [⟨b, d⟩] = (⟨10, 16, [(b, d)]⟩, 0) := by simp [Buf.write, h1, badLen, hd, twiceM, newOnes, putsIn, put, lkp]
  show (({ CM T1 (ct 1 0 0 [] set rd) with all := put (CM T1 (ct 1 0 0 [] set rd)).all 2 { ct 1 0 0 [] set rd with buf := (Buf.write ⟨10, 16, []⟩ [⟨b, d⟩]).1 } } : Mgr), (Buf.write ⟨10, 16, []⟩ [⟨b, d⟩]).2) = _
  rw [hw]; rfl
/-- What the second one's commit comes to. -/
structure Two (M : Mgr) (b c d : Int) : Prop where
  opn : ∃ dat rd, M.opn 2 = some (ct 1 0 0 [(d, dat)] [⟨c, 1⟩] rd)
  may : ∀ T, M.opn 2 = some T → M.may T = if b = c ∨ b = d then 8 else 0
theorem two_yes {M : Mgr} {b c d : Int} (I : Two M b c d) (h : b = c ∨ b = d) : (M.commit 2).2 = 8 ∧ (M.commit 2).1.result 2 = (4, 0, 8) := by
  obtain ⟨dat, rd, ho⟩ := I.opn
  have hm := I.may _ ho
  rw [if_pos h] at hm
  have hc : M.commit 2 = (M.end_ 2 4 8, 8) := by
    unfold Mgr.commit
    rw [ho]
    simp only []
    rw [if_neg (by simp [ct]), hm]
    simp
  rw [hc]
  refine ⟨rfl, ?_⟩
  unfold Mgr.end_ Mgr.result
  rw [(opn_lkp ho).1]
  simp only [lkp_put_self]
  rfl
theorem two_no {M : Mgr} {b c d : Int} (I : Two M b c d) (h : ¬ (b = c ∨ b = d)) : (M.commit 2).2 = 0 := by
  obtain ⟨dat, rd, ho⟩ := I.opn
  have hm := I.may _ ho
  rw [if_neg h] at hm
  unfold Mgr.commit
  rw [ho]
  simp only []
  rw [if_neg (by simp [ct]), hm]
  simp
theorem clash_end {a N : Nat} {M : Mgr} {b c d : Int} {R : HP} {w w0 : World} {K : Bool → World → Prop} (I : Two M b c d) (ok : MgrOk N M) (hN : N ≤ 100) (h : Sat (mgrA (some ⟨a, 0, none⟩) M * (R * whole w0)) w) (hk : ∀ w', Keep w0 w' → K true w') :
    bsplit (decide ((b : Int) = c))
      ((c_txn_Manager_Commit (some ⟨a, 0, none⟩) 2 w fun (x35 : Int) w36 => (bsplit (!decide ((x35 : Int) = 8)) (K (false) w36)
        ((c_txn_Manager_Result (some ⟨a, 0, none⟩) 2 w36 fun (x37 : Int × Int × Int) w38 => (bsplit (decide ((x37.1 : Int) = 4))
          ((bsplit (decide ((x37.2.2 : Int) = 8)) ((c_scarplaw23_awake  w38 fun (x39 : Bool) w40 => K (x39) w40)) (K (false) w38))) (K (false) w38)))))))
      ((bsplit (decide ((b : Int) = d))
        ((c_txn_Manager_Commit (some ⟨a, 0, none⟩) 2 w fun (x41 : Int) w42 => (bsplit (!decide ((x41 : Int) = 8)) (K (false) w42)
          ((c_txn_Manager_Result (some ⟨a, 0, none⟩) 2 w42 fun (x43 : Int × Int × Int) w44 => (bsplit (decide ((x43.1 : Int) = 4))
            ((bsplit (decide ((x43.2.2 : Int) = 8)) ((c_scarplaw23_awake  w44 fun (x45 : Bool) w46 => K (x45) w46)) (K (false) w44))) (K (false) w44)))))))
        ((c_txn_Manager_Commit (some ⟨a, 0, none⟩) 2 w fun (x47 : Int) w48 => (bsplit (!decide ((x47 : Int) = 0)) (K (false) w48)
          ((c_txn_Manager_Result (some ⟨a, 0, none⟩) 2 w48 fun (_ : Int × Int × Int) w50 => (c_scarplaw23_awake  w50 fun (x51 : Bool) w52 => K (x51) w52)))))))) := by
  have yes : (b = c ∨ b = d) → c_txn_Manager_Commit (some ⟨a, 0, none⟩) 2 w fun (x35 : Int) w36 => (bsplit (!decide ((x35 : Int) = 8)) (K (false) w36)
        ((c_txn_Manager_Result (some ⟨a, 0, none⟩) 2 w36 fun (x37 : Int × Int × Int) w38 => (bsplit (decide ((x37.1 : Int) = 4))
          ((bsplit (decide ((x37.2.2 : Int) = 8)) ((c_scarplaw23_awake  w38 fun (x39 : Bool) w40 => K (x39) w40)) (K (false) w38))) (K (false) w38))))) := fun hy => by
    obtain ⟨e1, e2⟩ := two_yes I hy
    refine ok_commit h ok (by omega) fun w1 _ h1 => ?_
    rw [e1]
    refine bsplit_iff.2 ⟨fun e => (by simp at e), fun _ => ?_⟩
    refine mgr_result h1 fun w2 k2 => ?_
    rw [e2]
    refine bsplit_decide.2 ⟨fun _ => bsplit_decide.2 ⟨fun _ => ?_, fun e => absurd rfl e⟩, fun e => absurd rfl e⟩
    exact awake_c fun w3 k3 => hk _ ((Keep.whole (k2.sat h1).right.right).trans k3)
  refine bsplit_decide.2 ⟨fun h1 => yes (.inl h1), fun h1 => bsplit_decide.2 ⟨fun h2 => yes (.inr h2), fun h2 => ?_⟩⟩
  have e1 := two_no I (by omega)
  refine ok_commit h ok (by omega) fun w1 _ h3 => ?_
  rw [e1]
  refine bsplit_iff.2 ⟨fun e => (by simp at e), fun _ => ?_⟩
  refine mgr_result h3 fun w2 k2 => ?_
  exact awake_c fun w3 k3 => hk _ ((Keep.whole (k2.sat h3).right.right).trans k3)
theorem valid_two {M : XMap} {q : List Tx} {b c d a m n : Int} (hr : hitS M q a ⟨m, [⟨c, 1⟩]⟩ = decide (b = c)) (hs : hitS M q a ⟨n, [⟨d, 1⟩]⟩ = decide (b = d)) : validM M q a ⟨m, [⟨c, 1⟩]⟩ ⟨n, [⟨d, 1⟩]⟩ = if b = c ∨ b = d then 8 else 0 := by
  unfold validM
  rw [if_neg (by simp [sumLen]), hr, hs]
  by_cases h1 : b = c <;> by_cases h2 : b = d <;> simp [h1, h2]
theorem clash_c {a0 b0 c0 d0 : Int} {fl : Bool} {w : World} {K : Bool → World → Prop} (hk : ∀ w', Keep w w' → K true w') : c_scarplaw23_TxnClash a0 b0 c0 d0 fl w K := by
  refine scarplaw23_TxnClash_go ?_
  unfold f_scarplaw23_TxnClash
  refine mgr_new (n := 10) (last := 0) (sat_whole w) (by omega) (by omega) fun p w2 h => ?_
  refine bsplit_iff.2 ⟨fun e => (by cases e), fun _ => bsplit_iff.2 ⟨fun e => (by cases e), fun _ => ?_⟩⟩
  refine round_c (by omega) (by omega) (round_c (by omega) (by omega) (round_c (by omega) (by omega) (round_c (by omega) (by omega) ?_)))
  obtain ⟨a, ha⟩ : ∃ a, a = a0 % 10 := ⟨_, rfl⟩
  obtain ⟨b, hb⟩ : ∃ b, b = b0 % 10 := ⟨_, rfl⟩
  obtain ⟨c, hc⟩ : ∃ c, c = c0 % 10 := ⟨_, rfl⟩
  obtain ⟨d, hd⟩ : ∃ d, d = d0 % 10 := ⟨_, rfl⟩
  rw [← ha, ← hb, ← hc, ← hd]
  have ha' : 0 ≤ a ∧ a < 10 := by omega
  have hb' : 0 ≤ b ∧ b < 10 := by omega
  have hc' : 0 ≤ c ∧ c < 10 := by omega
  have hd' : 0 ≤ d ∧ d < 10 := by omega
  clear ha hb hc hd
  refine ok_begin h (mgrOk_new (by omega) (by omega)) (by omega) fun w12 ok12 h12 => ?_
  refine ok_begin h12 ok12 (by omega) fun w14 ok14 h14 => ?_
  have e1 : (Mgr.new 10 0).begin.2 = (1, 0) := rfl
  have e2 : (Mgr.new 10 0).begin.1.begin = (CM (ct 1 0 0 [] [] []) (ct 1 0 0 [] [] []), (2, 0)) := rfl
  rw [e2] at ok14 h14 ⊢
  rw [e1]
  refine bsplit_iff.2 ⟨fun e => (by simp at e), fun _ => bsplit_iff.2 ⟨fun e => (by simp at e), fun _ => ?_⟩⟩
  refine ok_read (e := ⟨a, 1⟩) h14 ok14 (by omega) fun s15 w16 ok16 h16 => ?_
  obtain ⟨rd1, bs1, r1⟩ := cm_read1 (T2 := ct 1 0 0 [] [] []) ha'
  rw [r1] at ok16 h16 ⊢
  have h16' : Sat (mgrA (some ⟨p, 0, none⟩) (CM (ct 1 0 0 [] [⟨a, 1⟩] rd1) (ct 1 0 0 [] [] [])) * (byteRow s15 bs1 * whole w)) w16 := h16.eq (by ac_rfl)
  refine ok_read (e := ⟨c, 1⟩) h16' ok16 (by omega) fun s17 w18 ok18 h18 => ?_
  obtain ⟨rd2, bs2, r2⟩ := cm_read2 (T1 := ct 1 0 0 [] [⟨a, 1⟩] rd1) hc'
  rw [r2] at ok18 h18 ⊢
  refine bsplit_iff.2 ⟨fun e => (by simp at e), fun _ => bsplit_iff.2 ⟨fun e => (by simp at e), fun _ => ?_⟩⟩
  refine data_c h18 fun s19 w20 hs19 h20 => ?_
  rw [withW_iff]
  have h21 := h20.alloc (.cells #[.int .i64 b, .slice s19.a s19.n s19.c] 33)
  have hdl : (blockB 40 1).length = 40 := blockB_length _ _
  generalize blockB 40 1 = dx at h21 hdl
  generalize w20.heap.size = bx at h21 ⊢
  refine ok_write (l := [⟨b, dx⟩]) (h21.eq (by ac_rfl : _ = mgrA (some ⟨p, 0, none⟩) (CM (ct 1 0 0 [] [⟨a, 1⟩] rd1) (ct 1 0 0 [] [⟨c, 1⟩] rd2)) * (pt bx (.cells #[.int .i64 b, .slice s19.a s19.n s19.c] 33) * (ownS 1 s19 (bytesV dx) * (byteRow s17 bs2 * (byteRow s15 bs1 * whole w)))))) ok18 (fun w' hw' => put1_on hw' rfl) (by simp) fun w23 ok23 h23 => ?_
  rw [cm_write1 hb' hdl] at ok23 h23 ⊢
  refine bsplit_iff.2 ⟨fun e => (by simp at e), fun _ => ?_⟩
  refine data_c h23 fun s24 w25 hs24 h25 => ?_
  rw [withW_iff]
  have h26 := h25.alloc (.cells #[.int .i64 d, .slice s24.a s24.n s24.c] 33)
  have hdl2 : (blockB 40 2).length = 40 := blockB_length _ _
  generalize blockB 40 2 = dy at h26 hdl2
  generalize w25.heap.size = by_ at h26 ⊢
  refine ok_write (l := [⟨d, dy⟩]) (h26.eq (by ac_rfl : _ = mgrA (some ⟨p, 0, none⟩) (CM (ct 1 0 0 [(b, dx)] [⟨a, 1⟩] rd1) (ct 1 0 0 [] [⟨c, 1⟩] rd2)) * (pt by_ (.cells #[.int .i64 d, .slice s24.a s24.n s24.c] 33) * (ownS 1 s24 (bytesV dy) * ((pt bx (.cells #[.int .i64 b, .slice s19.a s19.n s19.c] 33) * (ownS 1 s19 (bytesV dx) * (byteRow s17 bs2 * byteRow s15 bs1))) * whole w))))) ok23 (fun w' hw' => put1_on hw' rfl) (by simp) fun w28 ok28 h28 => ?_
  rw [cm_write2 hd' hdl2] at ok28 h28 ⊢
  refine bsplit_iff.2 ⟨fun e => (by simp at e), fun _ => ?_⟩
  have lb : lbaOk b := by unfold lbaOk; omega
  have lc : lbaOk c := by unfold lbaOk; omega
  have ld : lbaOk d := by unfold lbaOk; omega
  generalize hT2 : ct 1 0 0 [(d, dy)] [⟨c, 1⟩] rd2 = T2 at ok28 h28 ⊢
  have hcom : (CM (ct 1 0 0 [(b, dx)] [⟨a, 1⟩] rd1) T2).commit 1 = ({ CM (ct 2 1 0 [(b, dx)] [⟨a, 1⟩] rd1) T2 with given := 1, queue := [1] }, 0) := by
    have ho : (CM (ct 1 0 0 [(b, dx)] [⟨a, 1⟩] rd1) T2).opn 1 = some (ct 1 0 0 [(b, dx)] [⟨a, 1⟩] rd1) := rfl
    have hm : (CM (ct 1 0 0 [(b, dx)] [⟨a, 1⟩] rd1) T2).may (ct 1 0 0 [(b, dx)] [⟨a, 1⟩] rd1) = 0 := by
      have hw : (CM (ct 1 0 0 [(b, dx)] [⟨a, 1⟩] rd1) T2).waiting = [] := rfl
      have hv := valid_nil (M := (CM (ct 1 0 0 [(b, dx)] [⟨a, 1⟩] rd1) T2).m) rfl (ct 1 0 0 [(b, dx)] [⟨a, 1⟩] rd1).at_ (viewSet (ct 1 0 0 [(b, dx)] [⟨a, 1⟩] rd1).view) (bufSet (ct 1 0 0 [(b, dx)] [⟨a, 1⟩] rd1).buf)
      unfold Mgr.may
      rw [if_neg (by simp [CM, Mgr.new]), hw, hv]
      simp [CM, Mgr.new]
    unfold Mgr.commit
    rw [ho]
    simp only []
    rw [if_neg (by simp [ct]), hm]
    rfl
  refine ok_commit h28 ok28 (by omega) fun w30 ok30 h30 => ?_
  rw [hcom] at ok30 h30 ⊢
  refine bsplit_iff.2 ⟨fun e => (by simp at e), fun _ => ?_⟩
  have hT2s : viewSet T2.view = ⟨64, [⟨c, 1⟩]⟩ ∧ bufSet T2.buf = ⟨1, [⟨d, 1⟩]⟩ ∧ T2.at_ = 0 := by subst hT2; exact ⟨viewSet_one rfl lc, bufSet_one rfl ld, rfl⟩
  have hput : Buf.puts (ct 2 1 0 [(b, dx)] [⟨a, 1⟩] rd1).buf = [⟨b, dx⟩] := puts_one rfl
  cases fl with
  | false =>
    refine bsplit_iff.2 ⟨fun e => (by cases e), fun _ => ?_⟩
    refine clash_end (b := b) (c := c) (d := d) ⟨⟨dy, rd2, ?_⟩, fun T hT => ?_⟩ ok30 (by omega) (h30.eq (by ac_rfl : _ = mgrA (some ⟨p, 0, none⟩) { CM (ct 2 1 0 [(b, dx)] [⟨a, 1⟩] rd1) T2 with given := 1, queue := [1] } * ((pt by_ (.cells #[.int .i64 d, .slice s24.a s24.n s24.c] 33) * (ownS 1 s24 (bytesV dy) * (pt bx (.cells #[.int .i64 b, .slice s19.a s19.n s19.c] 33) * (ownS 1 s19 (bytesV dx) * (byteRow s17 bs2 * byteRow s15 bs1))))) * whole w))) hk
    · subst hT2; rfl
    · have : T = T2 := by subst hT2; exact (Option.some.inj hT).symm
      subst this
      have hwt : Mgr.waiting { CM (ct 2 1 0 [(b, dx)] [⟨a, 1⟩] rd1) T with given := 1, queue := [1] } = [⟨1, [⟨b, dx⟩]⟩] := by rw [← hput]; rfl
      unfold Mgr.may
      rw [if_neg (by simp [CM, Mgr.new]), hwt, hT2s.1, hT2s.2.1, hT2s.2.2, valid_two (hit_wait rfl lb) (hit_wait rfl lb)]
      split <;> simp
  | true =>
    refine bsplit_iff.2 ⟨fun _ => ?_, fun e => (by cases e)⟩
    refine ok_batch h30 ok30 (by omega) fun s31 w32 ok32 h32 => ?_
    have hwt : Mgr.waiting { CM (ct 2 1 0 [(b, dx)] [⟨a, 1⟩] rd1) T2 with given := 1, queue := [1] } = [⟨1, [⟨b, dx⟩]⟩] := by rw [← hput]; rfl
    have hba : (Mgr.batch { CM (ct 2 1 0 [(b, dx)] [⟨a, 1⟩] rd1) T2 with given := 1, queue := [1] }).1 = { CM (ct 2 1 0 [(b, dx)] [⟨a, 1⟩] rd1) T2 with given := 1, queue := [1], out := 1 } := by
      unfold Mgr.batch
      rw [if_neg (by simp [CM, Mgr.new]), if_neg (by simp), hwt]
      simp [formL]
    rw [hba] at ok32 h32
    refine ok_done (h32.eq (by ac_rfl : _ = mgrA (some ⟨p, 0, none⟩) { CM (ct 2 1 0 [(b, dx)] [⟨a, 1⟩] rd1) T2 with given := 1, queue := [1], out := 1 } * ((batchA s31 (Mgr.batch { CM (ct 2 1 0 [(b, dx)] [⟨a, 1⟩] rd1) T2 with given := 1, queue := [1] }).2.1.2 * (pt by_ (.cells #[.int .i64 d, .slice s24.a s24.n s24.c] 33) * (ownS 1 s24 (bytesV dy) * (pt bx (.cells #[.int .i64 b, .slice s19.a s19.n s19.c] 33) * (ownS 1 s19 (bytesV dx) * (byteRow s17 bs2 * byteRow s15 bs1)))))) * whole w))) ok32 (by omega) fun w34 ok34 h34 => ?_
    have hwt2 : Mgr.waiting { CM (ct 2 1 0 [(b, dx)] [⟨a, 1⟩] rd1) T2 with given := 1, queue := [1], out := 1 } = [⟨1, [⟨b, dx⟩]⟩] := hwt
    have hap : (XMap.apply ⟨10, [], 0⟩ ⟨1, [⟨b, dx⟩]⟩).1 = ⟨10, [(b, [⟨1, dx⟩])], 1⟩ := by
      have hi : inB ⟨10, [], 0⟩ b = true := by simp [inB]; omega
      simp [XMap.apply, riseM, hi, badLen, hdl, addVer, put, versOf, lkp]
    have hdn : (Mgr.done { CM (ct 2 1 0 [(b, dx)] [⟨a, 1⟩] rd1) T2 with given := 1, queue := [1], out := 1 } 0).1 = { Mgr.new 10 0 with m := ⟨10, [(b, [⟨1, dx⟩])], 1⟩, book := ⟨16, 2, [(2, 0)]⟩, all := [(1, ct 3 1 0 [(b, dx)] [⟨a, 1⟩] rd1), (2, T2)], num := 1, last := 1, given := 1 } := by
      unfold Mgr.done
      rw [if_neg (by simp), hwt2]
      show ({ (doneOne 0 { CM (ct 2 1 0 [(b, dx)] [⟨a, 1⟩] rd1) T2 with given := 1, queue := [1], out := 1 } (1, ⟨1, [⟨b, dx⟩]⟩)) with num := 1, queue := [], out := 0 } : Mgr) = _
      have : doneOne 0 { CM (ct 2 1 0 [(b, dx)] [⟨a, 1⟩] rd1) T2 with given := 1, queue := [1], out := 1 } (1, ⟨1, [⟨b, dx⟩]⟩) = ({ CM (ct 2 1 0 [(b, dx)] [⟨a, 1⟩] rd1) T2 with given := 1, queue := [1], out := 1, m := (XMap.apply ⟨10, [], 0⟩ ⟨1, [⟨b, dx⟩]⟩).1, last := 1 } : Mgr).end_ 1 3 0 := rfl
      rw [this, hap]
      rfl
    rw [hdn] at ok34 h34
    refine clash_end (b := b) (c := c) (d := d) ⟨⟨dy, rd2, ?_⟩, fun T hT => ?_⟩ ok34 (by omega) h34 hk
    · subst hT2; rfl
    · have : T = T2 := by subst hT2; exact (Option.some.inj hT).symm
      subst this
      have hl : lastT [⟨1, dx⟩] = 1 := rfl
      have h1 : ∀ k m, lbaOk k → hitS ⟨10, [(b, [⟨1, dx⟩])], 1⟩ [] 0 ⟨m, [⟨k, 1⟩]⟩ = decide (b = k) := fun k m hk' => by
        rw [hit_vers (b := b) (v := [⟨1, dx⟩]) rfl hk', hl]; simp
      have hwt3 : Mgr.waiting { Mgr.new 10 0 with m := ⟨10, [(b, [⟨1, dx⟩])], 1⟩, book := ⟨16, 2, [(2, 0)]⟩, all := [(1, ct 3 1 0 [(b, dx)] [⟨a, 1⟩] rd1), (2, T)], num := 1, last := 1, given := 1 } = [] := rfl
      unfold Mgr.may
      rw [if_neg (by simp [Mgr.new]), hwt3, hT2s.1, hT2s.2.1, hT2s.2.2, valid_two (h1 _ _ lc) (h1 _ _ ld)]
      split <;> simp
theorem clash_row (w : World) (a0 a1 a2 a3 : Int) (a4 : Bool) : Calls Tryz.prog 8 #[.int .i64 a0, .int .i64 a1, .int .i64 a2, .int .i64 a3, .bool a4] w fun e w' => e = .returned (.bool true) ∧ RowKit.Below w.heap.size w w' := row_of (clash_c fun _ k => ⟨rfl, k⟩)
end Go.Proofs.YtbolgpjcmchfoaaGreat
