/- The law 'TxnOwn', walked. -/
import Derived.Test.YtbolgpjcmchfoaaGreatLl
namespace Go.Proofs.YtbolgpjcmchfoaaGreat
open Go Go.Vc Go.Sl Go.Mo
theorem join_two {x : Ext} (h : x.len = 1) : joinM [x, x] = [x] := by
  have hs : sortE [x, x] = [x, x] := by
    have hp := (sortE_spec [x, x]).1
    have : ([x, x] : List Ext) = List.replicate 2 x := rfl
    rw [this] at hp ⊢
    exact List.perm_replicate.1 hp
  unfold joinM
  rw [hs]
  obtain ⟨f, n⟩ := x
  simp only at h; subst h
  simp only [List.foldl_cons, List.foldl_nil, joinE]
  rw [if_pos (by omega)]
  simp
  omega
theorem add_again {m k : Int} (hm : 1 ≤ m) (hk : lbaOk k) : XSet.add ⟨m, [⟨k, 1⟩]⟩ [⟨k, 1⟩] = (⟨m, [⟨k, 1⟩]⟩, 0) := by
  unfold lbaOk at hk
  have hy : may ⟨k, 1⟩ = true := by simp [may]; omega
  unfold XSet.add
  simp only [List.all_cons, List.all_nil, hy, Bool.and_self, Bool.true_eq_false, if_false, List.length_singleton, List.singleton_append, join_two (x := ⟨k, 1⟩) rfl]
  rw [if_neg (by omega), if_neg (by simpa using hm)]
theorem read_any {M : XMap} {B : Buf} {V : View} {k : Int} (h : V.set = ⟨64, []⟩ ∨ V.set = ⟨64, [⟨k, 1⟩]⟩) (hb : M.blocks ≤ 1048576) (hk : 0 ≤ k ∧ k < M.blocks) : View.read M B V ⟨k, 1⟩ = ({ V with set := ⟨64, [⟨k, 1⟩]⟩, reads := V.reads ++ [seenB M B V.at_ k] }, ((seenB M B V.at_ k).data, 0)) := by
  rcases h with h | h
  · exact read_one h hb hk
  · have hw : within M ⟨k, 1⟩ = true := by simp [within]; omega
    have hbo : blocksOf ⟨k, 1⟩ = [k] := by simp [blocksOf, List.range_succ]
    unfold View.read
    rw [if_neg (by simp), if_neg (by rw [hw]; simp), h, add_again (by omega) (by unfold lbaOk; omega), if_neg (by simp), hbo]
    simp
/-- A read of one block by one that is open. -/
theorem readE_one {M : Mgr} {h k : Int} {T : Trn} (ho : M.opn h = some T) (hs : T.view.set = ⟨64, []⟩ ∨ T.view.set = ⟨64, [⟨k, 1⟩]⟩) (hb : M.m.blocks ≤ 1048576) (hk : 0 ≤ k ∧ k < M.m.blocks) :
    M.readE h ⟨k, 1⟩ = ({ M with all := put M.all h { T with view := { T.view with set := ⟨64, [⟨k, 1⟩]⟩, reads := T.view.reads ++ [seenB M.m T.buf T.view.at_ k] } } }, ((seenB M.m T.buf T.view.at_ k).data, 0)) := by
  unfold Mgr.readE
  rw [ho]
  simp only [read_any hs hb hk]
def ot (dat : List (Int × List UInt8)) (set : List Ext) (rds : List Rd) : Trn := ⟨1, 0, 0, 0, ⟨20, 16, dat⟩, ⟨0, ⟨64, set⟩, rds⟩⟩
def OM (T1 T2 : Trn) : Mgr := { Mgr.new 20 0 with book := ⟨16, 2, [(1, 0), (2, 0)]⟩, all := [(1, T1), (2, T2)] }
theorem seen_own {M : XMap} {t k : Int} {d : List UInt8} {n m : Int} : (seenB M ⟨n, m, [(k, d)]⟩ t k).data = d := by unfold seenB; simp [lkp]
theorem seen_none {M : XMap} {t k : Int} {n m : Int} (h : M.vers = []) : (seenB M ⟨n, m, []⟩ t k).data = zeros := by
  unfold seenB
  simp [lkp, XMap.get, versOf, h, valAt, upTo]
theorem own_write {T2 : Trn} {k : Int} {d : List UInt8} {dat : List (Int × List UInt8)} {set : List Ext} {rds : List Rd} (hk : 0 ≤ k ∧ k < 20) (hd : d.length = 40) (hdat : dat = [] ∨ ∃ d', dat = [(k, d')]) : (OM (ot dat set rds) T2).write 1 [⟨k, d⟩] = (OM (ot [(k, d)] set rds) T2, 0) := by
  have h1 : outOf 20 ⟨k, d⟩ = false := by simp [outOf]; omega
  have hw : Buf.write ⟨20, 16, dat⟩ [⟨k, d⟩] = (⟨20, 16, [(k, d)]⟩, 0) := by
    rcases hdat with e | ⟨d', e⟩ <;> subst e <;> simp [Buf.write, h1, badLen, hd, twiceM, newOnes, putsIn, put, lkp]
  have ho : (OM (ot dat set rds) T2).opn 1 = some (ot dat set rds) := rfl
  unfold Mgr.write
  rw [ho]
  show (({ OM (ot dat set rds) T2 with all := put (OM (ot dat set rds) T2).all 1 { ot dat set rds with buf := (Buf.write ⟨20, 16, dat⟩ [⟨k, d⟩]).1 } } : Mgr), (Buf.write ⟨20, 16, dat⟩ [⟨k, d⟩]).2) = _
  rw [hw]; rfl
/-- The end of the law up to its last comparisons. -/
theorem own_tail {p bx N : Nat} {M M3 M4 : Mgr} {k n : Int} {want : List UInt8} {R : HP} {w : World} {K : Int × Int → SV × Int → SV × Int → SV → World → Prop} (ok : MgrOk N M) (hN : N ≤ 100) (hb : M.begin.2 = (3, 0)) (h3 : M.begin.1.readE 3 ⟨k, 1⟩ = (M3, (want, 0))) (h4 : M3.readE 2 ⟨k, 1⟩ = (M4, (zeros, 0)))
    (h : Sat (mgrA (some ⟨p, 0, none⟩) M * (objA (some ⟨bx, 0, none⟩) [.int .i64 k, .int .i64 1] * R)) w) (hk : ∀ s45 s48 s50 w', Sat (byteRow s45 want * (byteRow s48 zeros * (byteRow s50 (blockB 40 n) * R))) w' → K (3, 0) (s45, 0) (s48, 0) s50 w') :
    c_txn_Manager_Begin (some ⟨p, 0, none⟩) w fun x42 w43 => ∃ g44 : Int × Int, (w43.cell? (⟨bx, 0, none⟩ : Addr) = some (.int .i64 g44.1) ∧ w43.cell? ((⟨bx, 0, none⟩ : Addr).add 1) = some (.int .i64 g44.2)) ∧
      (c_txn_Manager_Read (some ⟨p, 0, none⟩) x42.1 g44.1 g44.2 w43 fun (x45 : SV × Int) w46 => ∃ g47 : Int × Int, (w46.cell? (⟨bx, 0, none⟩ : Addr) = some (.int .i64 g47.1) ∧ w46.cell? ((⟨bx, 0, none⟩ : Addr).add 1) = some (.int .i64 g47.2)) ∧
        (c_txn_Manager_Read (some ⟨p, 0, none⟩) 2 g47.1 g47.2 w46 fun (x48 : SV × Int) w49 => c_scarpalike_Data n w49 fun (x50 : SV) w51 => K x42 x45 x48 x50 w51)) := by
  refine ok_begin h ok (by omega) fun w43 ok43 h43 => ?_
  rw [hb]
  have c43 := (objA_cells h43.right).1
  refine ⟨(k, 1), ⟨c43 0, by rw [add_mk]; exact c43 1⟩, ?_⟩
  refine ok_read (e := ⟨k, 1⟩) h43 ok43 (by omega) fun s45 w46 ok46 h46 => ?_
  rw [h3] at ok46 h46 ⊢
  have h46' : Sat (mgrA (some ⟨p, 0, none⟩) M3 * (objA (some ⟨bx, 0, none⟩) [.int .i64 k, .int .i64 1] * (byteRow s45 want * R))) w46 := h46.eq (by ac_rfl)
  have c46 := (objA_cells h46'.right).1
  refine ⟨(k, 1), ⟨c46 0, by rw [add_mk]; exact c46 1⟩, ?_⟩
  refine ok_read (e := ⟨k, 1⟩) h46' ok46 (by omega) fun s48 w49 ok49 h49 => ?_
  rw [h4] at ok49 h49 ⊢
  refine data_c h49 fun s50 w51 hs50 h51 => ?_
  refine hk s45 s48 s50 w51 ?_
  exact (h51.eq (by unfold byteRow; ac_rfl : _ = (mgrA (some ⟨p, 0, none⟩) M4 * objA (some ⟨bx, 0, none⟩) [.int .i64 k, .int .i64 1]) * (byteRow s45 want * (byteRow s48 zeros * (byteRow s50 (blockB 40 n) * R))))).right
theorem zeros_alloc {R : HP} {w : World} {K : World → Prop} (h : Sat R w) (hk : ∀ w', Sat (byteRow ⟨some ⟨w.heap.size, 0, none⟩, (40 : Int).toNat, (40 : Int).toNat⟩ zeros * R) w' → K w') :
    0 ≤ (40 : Int) ∧ (40 : Int) ≤ 40 ∧ ((1 : Nat) : Int) * 40 ≤ 2 ^ 48 ∧ (40 : Int) ≤ 2 ^ 48 ∧ withW (w.alloc (.cells (zrow [.int .u8 0] (40 : Int).toNat).toArray 5)) K := by
  refine ⟨by omega, by omega, by omega, by omega, ?_⟩
  rw [withW_iff]
  refine hk _ ?_
  have h2 := h.alloc (.cells (zrow [.int .u8 0] (40 : Int).toNat).toArray 5)
  rw [zeros_row] at h2 ⊢
  exact ownS_mk (sp := []) (by rw [List.append_nil]; exact h2) (by simp [bytesV, zeros]) (Nat.le_refl _) (by simp [bytesV, zeros])
/-- What is compared at the end. -/
theorem own_last {s45 s48 s50 : SV} {want : List UInt8} {n : Int} {ab : Bool} {w w0 : World} {K : Bool → World → Prop} (hw : want = if ab then zeros else blockB 40 n) (h : Sat (byteRow s45 want * (byteRow s48 zeros * (byteRow s50 (blockB 40 n) * whole w0))) w) (hk : ∀ w', Keep w0 w' → K true w') :
    bsplit ab
      ((0 ≤ (40 : Int) ∧ (40 : Int) ≤ 40 ∧ ((1 : Nat) : Int) * 40 ≤ 2 ^ 48 ∧ (40 : Int) ≤ 2 ^ 48 ∧
        (withW (w.alloc (.cells (zrow [.int .u8 0] (40 : Int).toNat).toArray 5)) fun w52 =>
          (bsplit (decide ((((3, 0) : Int × Int).2 : Int) = 0)) ((bsplit (decide ((((s45, 0) : SV × Int).2 : Int) = 0)) ((bsplit (decide ((((s48, 0) : SV × Int).2 : Int) = 0))
            ((c_scarpalike_Bytes s45 (⟨(some (⟨w.heap.size, 0, none⟩ : Addr)), ((40 : Int).toNat), ((40 : Int).toNat)⟩) w52 fun (x53 : Bool) w54 => (bsplit x53
              ((0 ≤ (40 : Int) ∧ (40 : Int) ≤ 40 ∧ ((1 : Nat) : Int) * 40 ≤ 2 ^ 48 ∧ (40 : Int) ≤ 2 ^ 48 ∧
                (withW (w54.alloc (.cells (zrow [.int .u8 0] (40 : Int).toNat).toArray 5)) fun w55 =>
                  (c_scarpalike_Bytes s48 (⟨(some (⟨w54.heap.size, 0, none⟩ : Addr)), ((40 : Int).toNat), ((40 : Int).toNat)⟩) w55 fun (x56 : Bool) w57 => (bsplit x56 ((c_scarplaw23_awake  w57 fun (x58 : Bool) w59 => K (x58) w59)) (K (false) w57))))))
              (K (false) w54))))
            (K (false) w52))) (K (false) w52))) (K (false) w52)))))
      ((bsplit (decide ((((3, 0) : Int × Int).2 : Int) = 0)) ((bsplit (decide ((((s45, 0) : SV × Int).2 : Int) = 0)) ((bsplit (decide ((((s48, 0) : SV × Int).2 : Int) = 0))
        ((c_scarpalike_Bytes s45 s50 w fun (x60 : Bool) w61 => (bsplit x60
          ((0 ≤ (40 : Int) ∧ (40 : Int) ≤ 40 ∧ ((1 : Nat) : Int) * 40 ≤ 2 ^ 48 ∧ (40 : Int) ≤ 2 ^ 48 ∧
            (withW (w61.alloc (.cells (zrow [.int .u8 0] (40 : Int).toNat).toArray 5)) fun w62 =>
              (c_scarpalike_Bytes s48 (⟨(some (⟨w61.heap.size, 0, none⟩ : Addr)), ((40 : Int).toNat), ((40 : Int).toNat)⟩) w62 fun (x63 : Bool) w64 => (bsplit x63 ((c_scarplaw23_awake  w64 fun (x65 : Bool) w66 => K (x65) w66)) (K (false) w64))))))
          (K (false) w61))))
        (K (false) w))) (K (false) w))) (K (false) w))) := by
  have hz : zeros.length ≤ 2 ^ 60 := by simp [zeros]
  refine bsplit_iff.2 ⟨fun e => ?_, fun e => ?_⟩
  · rw [e] at hw
    simp only [if_true] at hw
    subst hw
    refine zeros_alloc h fun w52 h52 => bsplit_decide.2 ⟨fun _ => bsplit_decide.2 ⟨fun _ => bsplit_decide.2 ⟨fun _ => ?_, fun e => absurd rfl e⟩, fun e => absurd rfl e⟩, fun e => absurd rfl e⟩
    refine bytes_c (byteRow_on h52.right.left) (byteRow_on h52.left) hz fun w54 k54 => ?_
    refine bsplit_decide.2 ⟨fun _ => ?_, fun e => absurd rfl e⟩
    have h54 := k54.sat h52
    refine zeros_alloc h54 fun w55 h55 => ?_
    refine bytes_c (byteRow_on h55.right.right.right.left) (byteRow_on h55.left) hz fun w57 k57 => ?_
    refine bsplit_decide.2 ⟨fun _ => ?_, fun e => absurd rfl e⟩
    exact awake_c fun w59 k59 => hk _ ((Keep.whole (k57.sat h55).right.right.right.right.right).trans k59)
  · rw [e] at hw
    simp only [Bool.false_eq_true, if_false] at hw
    subst hw
    refine bsplit_decide.2 ⟨fun _ => bsplit_decide.2 ⟨fun _ => bsplit_decide.2 ⟨fun _ => ?_, fun e => absurd rfl e⟩, fun e => absurd rfl e⟩, fun e => absurd rfl e⟩
    refine bytes_c (byteRow_on h.left) (byteRow_on h.right.right.left) (by rw [blockB_length]; omega) fun w61 k61 => ?_
    refine bsplit_decide.2 ⟨fun _ => ?_, fun e => absurd rfl e⟩
    have h61 := k61.sat h
    refine zeros_alloc h61 fun w62 h62 => ?_
    refine bytes_c (byteRow_on h62.right.right.left) (byteRow_on h62.left) hz fun w64 k64 => ?_
    refine bsplit_decide.2 ⟨fun _ => ?_, fun e => absurd rfl e⟩
    exact awake_c fun w66 k66 => hk _ ((Keep.whole (k64.sat h62).right.right.right.right).trans k66)
theorem own_c {a0 n : Int} {ab : Bool} {w : World} {K : Bool → World → Prop} (hk : ∀ w', Keep w w' → K true w') : c_scarplaw23_TxnOwn a0 n ab w K := by
  refine scarplaw23_TxnOwn_go ?_
  unfold f_scarplaw23_TxnOwn
  refine bsplit_decide.2 ⟨fun _ => awake_c hk, fun h1 => bsplit_decide.2 ⟨fun _ => awake_c hk, fun h2 => ?_⟩⟩
  refine mgr_new (n := 20) (last := 0) (sat_whole w) (by omega) (by omega) fun p w6 h => ?_
  refine bsplit_iff.2 ⟨fun e => (by cases e), fun _ => bsplit_iff.2 ⟨fun e => (by cases e), fun _ => ?_⟩⟩
  refine round_c (by omega) (by omega) ?_
  obtain ⟨k, hk0⟩ : ∃ k, k = a0 % 20 := ⟨_, rfl⟩
  rw [← hk0]
  have hk' : 0 ≤ k ∧ k < 20 := by omega
  clear hk0
  refine box2 h fun w10 _ h10 => ?_
  generalize w6.heap.size = bx at h10 ⊢
  have h10' : Sat (mgrA (some ⟨p, 0, none⟩) (Mgr.new 20 0) * (objA (some ⟨bx, 0, none⟩) [.int .i64 k, .int .i64 1] * whole w)) w10 := h10.eq (by ac_rfl)
  refine ok_begin h10' (mgrOk_new (by omega) (by omega)) (by omega) fun w12 ok12 h12 => ?_
  refine ok_begin h12 ok12 (by omega) fun w14 ok14 h14 => ?_
  have e1 : (Mgr.new 20 0).begin.2 = (1, 0) := rfl
  have e2 : (Mgr.new 20 0).begin.1.begin = (OM (ot [] [] []) (ot [] [] []), (2, 0)) := rfl
  rw [e2] at ok14 h14 ⊢
  rw [e1]
  refine bsplit_iff.2 ⟨fun e => (by simp at e), fun _ => bsplit_iff.2 ⟨fun e => (by simp at e), fun _ => ?_⟩⟩
  have lk : lbaOk k := by unfold lbaOk; omega
  refine loop_i (fun (x : Bool × Int) w' => ∃ (i : Nat) (r1 r2 : List Rd) (s1 s2 : List Ext) (dat : List (Int × List UInt8)), x.2 = i ∧ (i : Int) ≤ n ∧ (s1 = [] ∨ s1 = [⟨k, 1⟩]) ∧ (s2 = [] ∨ s2 = [⟨k, 1⟩]) ∧ (i = 0 ∧ dat = [] ∨ 0 < i ∧ dat = [(k, blockB 40 ((i : Int) - 1))]) ∧ MgrOk (2 + 2 * i) (OM (ot dat s1 r1) (ot [] s2 r2)) ∧ Sat (mgrA (some ⟨p, 0, none⟩) (OM (ot dat s1 r1) (ot [] s2 r2)) * (objA (some ⟨bx, 0, none⟩) [.int .i64 k, .int .i64 1] * whole w)) w') (fun x _ => (n - x.2).toNat)
    ⟨0, [], [], [], [], [], rfl, by omega, .inl rfl, .inl rfl, .inl ⟨rfl, rfl⟩, ok14, h14⟩ ?_
  rintro ⟨y, x⟩ w16 ⟨i, r1, r2, s1, s2, dat, hx, hi, hs1, hs2, hdat, ok, hw⟩
  simp only at hx; subst hx
  dsimp only
  have hdat' : dat = [] ∨ ∃ d', dat = [(k, d')] := by rcases hdat with ⟨_, e⟩ | ⟨_, e⟩; exact .inl e; exact .inr ⟨_, e⟩
  refine bsplit_decide.2 ⟨fun hlt => ?_, fun hge => ?_⟩
  · refine data_c hw fun s18 w19 hs18 h19 => ?_
    rw [withW_iff]
    have h20 := h19.alloc (.cells #[.int .i64 k, .slice s18.a s18.n s18.c] 33)
    have hdl : (blockB 40 (i : Int)).length = 40 := blockB_length _ _
    generalize hd : blockB 40 (i : Int) = d at h20 hdl
    generalize w19.heap.size = bn at h20 ⊢
    refine ok_write (l := [⟨k, d⟩]) (h20.eq (by ac_rfl : _ = mgrA (some ⟨p, 0, none⟩) (OM (ot dat s1 r1) (ot [] s2 r2)) * (pt bn (.cells #[.int .i64 k, .slice s18.a s18.n s18.c] 33) * (ownS 1 s18 (bytesV d) * (objA (some ⟨bx, 0, none⟩) [.int .i64 k, .int .i64 1] * whole w))))) ok (fun w' hw' => put1_on hw' rfl) (by simp) fun w22 ok22 h22 => ?_
    rw [own_write hk' hdl hdat'] at ok22 h22 ⊢
    refine bsplit_iff.2 ⟨fun e => (by simp at e), fun _ => ?_⟩
    have h22' : Sat (mgrA (some ⟨p, 0, none⟩) (OM (ot [(k, d)] s1 r1) (ot [] s2 r2)) * (objA (some ⟨bx, 0, none⟩) [.int .i64 k, .int .i64 1] * whole w)) w22 := (h22.eq (by ac_rfl : _ = (pt bn (.cells #[.int .i64 k, .slice s18.a s18.n s18.c] 33) * ownS 1 s18 (bytesV d)) * (mgrA (some ⟨p, 0, none⟩) (OM (ot [(k, d)] s1 r1) (ot [] s2 r2)) * (objA (some ⟨bx, 0, none⟩) [.int .i64 k, .int .i64 1] * whole w)))).right
    have c22 := (objA_cells h22'.right).1
    refine ⟨(k, 1), ⟨c22 0, by rw [add_mk]; exact c22 1⟩, ?_⟩
    have hA : (OM (ot [(k, d)] s1 r1) (ot [] s2 r2)).readE 1 ⟨k, 1⟩ = (OM (ot [(k, d)] [⟨k, 1⟩] (r1 ++ [seenB ⟨20, [], 0⟩ ⟨20, 16, [(k, d)]⟩ 0 k])) (ot [] s2 r2), (d, 0)) := by
      have ho : (OM (ot [(k, d)] s1 r1) (ot [] s2 r2)).opn 1 = some (ot [(k, d)] s1 r1) := rfl
      rw [readE_one ho (by rcases hs1 with e | e <;> subst e; exact .inl rfl; exact .inr rfl) (by simp [OM, Mgr.new]) hk']
      have : (seenB (OM (ot [(k, d)] s1 r1) (ot [] s2 r2)).m (ot [(k, d)] s1 r1).buf (ot [(k, d)] s1 r1).view.at_ k).data = d := seen_own
      rw [this]
      rfl
    refine ok_read (e := ⟨k, 1⟩) h22' ok22 (by omega) fun s24 w25 ok25 h25 => ?_
    rw [hA] at ok25 h25 ⊢
    generalize r1 ++ [seenB ⟨20, [], 0⟩ ⟨20, 16, [(k, d)]⟩ 0 k] = r1' at ok25 h25 hA
    have h25' : Sat (mgrA (some ⟨p, 0, none⟩) (OM (ot [(k, d)] [⟨k, 1⟩] r1') (ot [] s2 r2)) * (objA (some ⟨bx, 0, none⟩) [.int .i64 k, .int .i64 1] * (byteRow s24 d * whole w))) w25 := h25.eq (by ac_rfl)
    have c25 := (objA_cells h25'.right).1
    refine ⟨(k, 1), ⟨c25 0, by rw [add_mk]; exact c25 1⟩, ?_⟩
    have hB : (OM (ot [(k, d)] [⟨k, 1⟩] r1') (ot [] s2 r2)).readE 2 ⟨k, 1⟩ = (OM (ot [(k, d)] [⟨k, 1⟩] r1') (ot [] [⟨k, 1⟩] (r2 ++ [seenB ⟨20, [], 0⟩ ⟨20, 16, []⟩ 0 k])), (zeros, 0)) := by
      have ho : (OM (ot [(k, d)] [⟨k, 1⟩] r1') (ot [] s2 r2)).opn 2 = some (ot [] s2 r2) := rfl
      rw [readE_one ho (by rcases hs2 with e | e <;> subst e; exact .inl rfl; exact .inr rfl) (by simp [OM, Mgr.new]) hk']
      have : (seenB (OM (ot [(k, d)] [⟨k, 1⟩] r1') (ot [] s2 r2)).m (ot [] s2 r2).buf (ot [] s2 r2).view.at_ k).data = zeros := seen_none rfl
      rw [this]
      rfl
    refine ok_read (e := ⟨k, 1⟩) h25' ok25 (by omega) fun s27 w28 ok28 h28 => ?_
    rw [hB] at ok28 h28 ⊢
    generalize r2 ++ [seenB ⟨20, [], 0⟩ ⟨20, 16, []⟩ 0 k] = r2' at ok28 h28
    refine bsplit_iff.2 ⟨fun e => (by simp at e), fun _ => bsplit_iff.2 ⟨fun e => (by simp at e), fun _ => ?_⟩⟩
    refine data_c h28 fun s29 w30 hs29 h30 => ?_
    have h30' : Sat (byteRow s24 d * (byteRow s29 (blockB 40 (i : Int)) * (byteRow s27 zeros * (mgrA (some ⟨p, 0, none⟩) (OM (ot [(k, d)] [⟨k, 1⟩] r1') (ot [] [⟨k, 1⟩] r2')) * (objA (some ⟨bx, 0, none⟩) [.int .i64 k, .int .i64 1] * whole w))))) w30 := h30.eq (by unfold byteRow; ac_rfl)
    rw [hd] at h30'
    refine bytes_c (byteRow_on h30'.left) (byteRow_on h30'.right.left) (by omega) fun w32 k32 => ?_
    refine bsplit_iff.2 ⟨fun e => (by simp at e), fun _ => ?_⟩
    have h32 := k32.sat h30'
    refine zeros_alloc h32 fun w33 h33 => ?_
    refine bytes_c (byteRow_on h33.right.right.right.left) (byteRow_on h33.left) (by simp [zeros]) fun w35 k35 => ?_
    refine bsplit_iff.2 ⟨fun e => (by simp at e), fun _ => ?_⟩
    have e1 : IntKind.i64.wrap ((i : Int) + 1) = ((i + 1 : Nat) : Int) := by rw [wrap_of (by omega) (by omega)]; omega
    refine ⟨⟨i + 1, r1', r2', [⟨k, 1⟩], [⟨k, 1⟩], [(k, d)], e1, by omega, .inr rfl, .inr rfl, .inr ⟨by omega, by rw [← hd]; congr 3; omega⟩, ok28, (k35.sat h33).right.right.right.right⟩, by rw [e1]; omega⟩
  · obtain rfl : (i : Int) = n := by omega
    obtain ⟨hi0, rfl⟩ : 0 < i ∧ dat = [(k, blockB 40 ((i : Int) - 1))] := by
      rcases hdat with ⟨e, _⟩ | h
      · omega
      · exact h
    have e0 : IntKind.i64.wrap ((i : Int) - 1) = (i : Int) - 1 := wrap_of (by omega) (by omega)
    rw [e0]
    have hdl : (blockB 40 ((i : Int) - 1)).length = 40 := blockB_length _ _
    generalize hd : blockB 40 ((i : Int) - 1) = d at ok hw hdl
    have T1s : ∀ st tm c, (({ ot [(k, d)] s1 r1 with state := st, time := tm, code := c } : Trn)).view.set = ⟨64, s1⟩ := fun _ _ _ => rfl
    cases ab with
    | true =>
      refine bsplit_iff.2 ⟨fun _ => ?_, fun e => (by cases e)⟩
      refine ok_abort hw ok fun w37 ok37 h37 => ?_
      have hab : (OM (ot [(k, d)] s1 r1) (ot [] s2 r2)).abort 1 = ({ Mgr.new 20 0 with book := ⟨16, 2, [(2, 0)]⟩, all := [(1, { ot [(k, d)] s1 r1 with state := 4, time := 0, code := 0 }), (2, ot [] s2 r2)] }, 0) := rfl
      rw [hab] at ok37 h37 ⊢
      generalize hMa : ({ Mgr.new 20 0 with book := ⟨16, 2, [(2, 0)]⟩, all := [(1, { ot [(k, d)] s1 r1 with state := 4, time := 0, code := 0 }), (2, ot [] s2 r2)] } : Mgr) = Ma at ok37 h37 ⊢
      refine bsplit_iff.2 ⟨fun e => (by simp at e), fun _ => ?_⟩
      have hba : Ma.batch = (Ma, ((0, []), 14)) := by subst hMa; rfl
      refine ok_batch h37 ok37 (by omega) fun s38 w39 ok39 h39 => ?_
      rw [hba] at ok39 h39
      have hdo : Ma.done 0 = (Ma, 14) := by subst hMa; rfl
      refine ok_done (h39.eq (by ac_rfl : _ = mgrA (some ⟨p, 0, none⟩) Ma * (objA (some ⟨bx, 0, none⟩) [.int .i64 k, .int .i64 1] * (batchA s38 [] * whole w)))) ok39 (by omega) fun w41 ok41 h41 => ?_
      rw [hdo] at ok41 h41
      have hbg : Ma.begin = ({ Mgr.new 20 0 with book := ⟨16, 3, [(2, 0), (3, 0)]⟩, all := [(1, { ot [(k, d)] s1 r1 with state := 4, time := 0, code := 0 }), (2, ot [] s2 r2), (3, ot [] [] [])] }, (3, 0)) := by subst hMa; rfl
      have h3 : Ma.begin.1.readE 3 ⟨k, 1⟩ = ({ Mgr.new 20 0 with book := ⟨16, 3, [(2, 0), (3, 0)]⟩, all := [(1, { ot [(k, d)] s1 r1 with state := 4, time := 0, code := 0 }), (2, ot [] s2 r2), (3, ot [] [⟨k, 1⟩] [seenB ⟨20, [], 0⟩ ⟨20, 16, []⟩ 0 k])] }, (zeros, 0)) := by
        rw [hbg]
        rw [readE_one (T := ot [] [] []) rfl (.inl rfl) (by simp [Mgr.new]) hk']
        have : (seenB (Mgr.new 20 0).m (ot [] [] []).buf (ot [] [] []).view.at_ k).data = zeros := seen_none rfl
        simp only [this]
        rfl
      have h4 : ∃ M4, ({ Mgr.new 20 0 with book := ⟨16, 3, [(2, 0), (3, 0)]⟩, all := [(1, { ot [(k, d)] s1 r1 with state := 4, time := 0, code := 0 }), (2, ot [] s2 r2), (3, ot [] [⟨k, 1⟩] [seenB ⟨20, [], 0⟩ ⟨20, 16, []⟩ 0 k])] } : Mgr).readE 2 ⟨k, 1⟩ = (M4, (zeros, 0)) := by
        rw [readE_one (T := ot [] s2 r2) rfl (by rcases hs2 with e | e <;> subst e; exact .inl rfl; exact .inr rfl) (by simp [Mgr.new]) hk']
        have : (seenB (Mgr.new 20 0).m (ot [] s2 r2).buf (ot [] s2 r2).view.at_ k).data = zeros := seen_none rfl
        exact ⟨_, Prod.ext rfl (Prod.ext this rfl)⟩
      obtain ⟨M4, h4⟩ := h4
      refine own_tail (N := 2 + 2 * i + 1) (n := (i : Int) - 1) ok41 (by omega) (by rw [hbg]) h3 h4 h41 fun s45 s48 s50 w51 h51 => ?_
      have h52 : Sat (byteRow s45 zeros * (byteRow s48 zeros * (byteRow s50 (blockB 40 ((i : Int) - 1)) * whole w))) w51 := (h51.eq (by ac_rfl : _ = batchA s38 [] * (byteRow s45 zeros * (byteRow s48 zeros * (byteRow s50 (blockB 40 ((i : Int) - 1)) * whole w))))).right
      exact own_last (ab := true) (n := (i : Int) - 1) rfl h52 hk
    | false =>
      refine bsplit_iff.2 ⟨fun e => (by cases e), fun _ => ?_⟩
      have hcm : (OM (ot [(k, d)] s1 r1) (ot [] s2 r2)).commit 1 = ({ Mgr.new 20 0 with book := ⟨16, 2, [(1, 0), (2, 0)]⟩, all := [(1, { ot [(k, d)] s1 r1 with state := 2, time := 1 }), (2, ot [] s2 r2)], given := 1, queue := [1] }, 0) := by
        have ho : (OM (ot [(k, d)] s1 r1) (ot [] s2 r2)).opn 1 = some (ot [(k, d)] s1 r1) := rfl
        have hm : (OM (ot [(k, d)] s1 r1) (ot [] s2 r2)).may (ot [(k, d)] s1 r1) = 0 := by
          have hw : (OM (ot [(k, d)] s1 r1) (ot [] s2 r2)).waiting = [] := rfl
          have hv := valid_nil (M := (OM (ot [(k, d)] s1 r1) (ot [] s2 r2)).m) rfl (ot [(k, d)] s1 r1).at_ (viewSet (ot [(k, d)] s1 r1).view) (bufSet (ot [(k, d)] s1 r1).buf)
          unfold Mgr.may
          rw [if_neg (by simp [OM, Mgr.new]), hw, hv]
          simp [OM, Mgr.new]
        unfold Mgr.commit
        rw [ho]
        simp only []
        rw [if_neg (by simp [ot]), hm]
        rfl
      refine ok_commit hw ok (by omega) fun w68 ok68 h68 => ?_
      rw [hcm] at ok68 h68 ⊢
      generalize hMa : ({ Mgr.new 20 0 with book := ⟨16, 2, [(1, 0), (2, 0)]⟩, all := [(1, { ot [(k, d)] s1 r1 with state := 2, time := 1 }), (2, ot [] s2 r2)], given := 1, queue := [1] } : Mgr) = Ma at ok68 h68 ⊢
      refine bsplit_iff.2 ⟨fun e => (by simp at e), fun _ => ?_⟩
      have hput : Buf.puts ({ ot [(k, d)] s1 r1 with state := 2, time := 1 } : Trn).buf = [⟨k, d⟩] := puts_one rfl
      have hwt : ∀ o, Mgr.waiting { Ma with out := o } = [⟨1, [⟨k, d⟩]⟩] := fun o => by rw [← hput]; subst hMa; rfl
      have hwt0 : Ma.waiting = [⟨1, [⟨k, d⟩]⟩] := hwt Ma.out
      refine ok_batch h68 ok68 (by omega) fun s38 w39 ok39 h39 => ?_
      have hba : Ma.batch.1 = { Ma with out := 1 } := by
        unfold Mgr.batch
        rw [if_neg (by subst hMa; simp [Mgr.new]), if_neg (by subst hMa; simp), hwt0]
        simp [formL]
      rw [hba] at ok39 h39
      have hap : (XMap.apply ⟨20, [], 0⟩ ⟨1, [⟨k, d⟩]⟩).1 = ⟨20, [(k, [⟨1, d⟩])], 1⟩ := by
        have hi : inB ⟨20, [], 0⟩ k = true := by simp [inB]; omega
        simp [XMap.apply, riseM, hi, badLen, hdl, addVer, put, versOf, lkp]
      have hdo : (Mgr.done { Ma with out := 1 } 0).1 = { Mgr.new 20 0 with m := ⟨20, [(k, [⟨1, d⟩])], 1⟩, book := ⟨16, 2, [(2, 0)]⟩, all := [(1, { ot [(k, d)] s1 r1 with state := 3, time := 1 }), (2, ot [] s2 r2)], num := 1, last := 1, given := 1 } := by
        unfold Mgr.done
        rw [if_neg (by simp), hwt 1]
        subst hMa
        have : doneOne 0 { Mgr.new 20 0 with book := ⟨16, 2, [(1, 0), (2, 0)]⟩, all := [(1, { ot [(k, d)] s1 r1 with state := 2, time := 1 }), (2, ot [] s2 r2)], given := 1, queue := [1], out := 1 } (1, ⟨1, [⟨k, d⟩]⟩) = ({ Mgr.new 20 0 with m := (XMap.apply ⟨20, [], 0⟩ ⟨1, [⟨k, d⟩]⟩).1, book := ⟨16, 2, [(1, 0), (2, 0)]⟩, all := [(1, { ot [(k, d)] s1 r1 with state := 2, time := 1 }), (2, ot [] s2 r2)], given := 1, queue := [1], out := 1, last := 1 } : Mgr).end_ 1 3 0 := rfl
        show ({ (doneOne 0 { Mgr.new 20 0 with book := ⟨16, 2, [(1, 0), (2, 0)]⟩, all := [(1, { ot [(k, d)] s1 r1 with state := 2, time := 1 }), (2, ot [] s2 r2)], given := 1, queue := [1], out := 1 } (1, ⟨1, [⟨k, d⟩]⟩)) with num := 1, queue := [], out := 0 } : Mgr) = _
        rw [this, hap]
        rfl
      refine ok_done (h39.eq (by ac_rfl : _ = mgrA (some ⟨p, 0, none⟩) { Ma with out := 1 } * (objA (some ⟨bx, 0, none⟩) [.int .i64 k, .int .i64 1] * (batchA s38 Ma.batch.2.1.2 * whole w)))) ok39 (by omega) fun w41 ok41 h41 => ?_
      rw [hdo] at ok41 h41
      generalize hMb : ({ Mgr.new 20 0 with m := ⟨20, [(k, [⟨1, d⟩])], 1⟩, book := ⟨16, 2, [(2, 0)]⟩, all := [(1, { ot [(k, d)] s1 r1 with state := 3, time := 1 }), (2, ot [] s2 r2)], num := 1, last := 1, given := 1 } : Mgr) = Mb at ok41 h41
      have hbg : Mb.begin = ({ Mb with book := ⟨16, 3, [(2, 0), (3, 1)]⟩, all := [(1, { ot [(k, d)] s1 r1 with state := 3, time := 1 }), (2, ot [] s2 r2), (3, ⟨1, 0, 0, 1, ⟨20, 16, []⟩, ⟨1, ⟨64, []⟩, []⟩⟩)] }, (3, 0)) := by subst hMb; rfl
      have hg1 : (seenB ⟨20, [(k, [⟨1, d⟩])], 1⟩ ⟨20, 16, []⟩ 1 k).data = d := by simp [seenB, lkp, XMap.get, versOf, valAt, upTo]
      have hg0 : (seenB ⟨20, [(k, [⟨1, d⟩])], 1⟩ ⟨20, 16, []⟩ 0 k).data = zeros := by simp [seenB, lkp, XMap.get, versOf, valAt, upTo]
      have h3 : Mb.begin.1.readE 3 ⟨k, 1⟩ = ({ Mb with book := ⟨16, 3, [(2, 0), (3, 1)]⟩, all := [(1, { ot [(k, d)] s1 r1 with state := 3, time := 1 }), (2, ot [] s2 r2), (3, ⟨1, 0, 0, 1, ⟨20, 16, []⟩, ⟨1, ⟨64, [⟨k, 1⟩]⟩, [seenB ⟨20, [(k, [⟨1, d⟩])], 1⟩ ⟨20, 16, []⟩ 1 k]⟩⟩)] }, (d, 0)) := by
        rw [hbg]
        rw [readE_one (T := ⟨1, 0, 0, 1, ⟨20, 16, []⟩, ⟨1, ⟨64, []⟩, []⟩⟩) rfl (.inl rfl) (by subst hMb; simp) (by subst hMb; exact hk')]
        subst hMb
        simp only [hg1]
        rfl
      have h4 : ∃ M4, ({ Mb with book := ⟨16, 3, [(2, 0), (3, 1)]⟩, all := [(1, { ot [(k, d)] s1 r1 with state := 3, time := 1 }), (2, ot [] s2 r2), (3, ⟨1, 0, 0, 1, ⟨20, 16, []⟩, ⟨1, ⟨64, [⟨k, 1⟩]⟩, [seenB ⟨20, [(k, [⟨1, d⟩])], 1⟩ ⟨20, 16, []⟩ 1 k]⟩⟩)] } : Mgr).readE 2 ⟨k, 1⟩ = (M4, (zeros, 0)) := by
        rw [readE_one (T := ot [] s2 r2) rfl (by rcases hs2 with e | e <;> subst e; exact .inl rfl; exact .inr rfl) (by subst hMb; simp) (by subst hMb; exact hk')]
        subst hMb
        exact ⟨_, Prod.ext rfl (Prod.ext hg0 rfl)⟩
      obtain ⟨M4, h4⟩ := h4
      refine own_tail (N := 2 + 2 * i + 1 + 1) (n := (i : Int) - 1) ok41 (by omega) (by rw [hbg]) h3 h4 h41 fun s45 s48 s50 w51 h51 => ?_
      have h52 : Sat (byteRow s45 d * (byteRow s48 zeros * (byteRow s50 (blockB 40 ((i : Int) - 1)) * whole w))) w51 := (h51.eq (by ac_rfl : _ = batchA s38 Ma.batch.2.1.2 * (byteRow s45 d * (byteRow s48 zeros * (byteRow s50 (blockB 40 ((i : Int) - 1)) * whole w))))).right
      exact own_last (ab := false) (n := (i : Int) - 1) (by rw [hd]; rfl) h52 hk
theorem own_row (w : World) (a0 a1 : Int) (a2 : Bool) : Calls Tryz.prog 9 #[.int .i64 a0, .int .i64 a1, .bool a2] w fun e w' => e = .returned (.bool true) ∧ RowKit.Below w.heap.size w w' := row_of (own_c fun _ k => ⟨rfl, k⟩)
end Go.Proofs.YtbolgpjcmchfoaaGreat
