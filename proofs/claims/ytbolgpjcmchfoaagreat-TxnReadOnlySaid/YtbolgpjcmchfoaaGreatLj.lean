/- The law 'TxnReadOnly', walked. -/
import Derived.Test.YtbolgpjcmchfoaaGreatLg
import Derived.Test.YtbolgpjcmchfoaaGreatA
namespace Go.Proofs.YtbolgpjcmchfoaaGreat
open Go Go.Vc Go.Sl Go.Mo
/-- None is open, nothing was written; the handles so far. -/
structure Idle (i : Nat) (r : Bool) (M : Mgr) : Prop where
  m : M.m = ⟨20, [], 0⟩
  read : M.read = r
  out : M.out = 0
  queue : M.queue = []
  last : M.last = 0
  given : M.given = 0
  most : M.book.most = 16
  times : M.book.times = []
  blast : M.book.last = i
theorem idle_begin {i : Nat} {r : Bool} {M : Mgr} (I : Idle i r M) : M.begin = ({ M with book := ⟨16, (i : Int) + 1, [((i : Int) + 1, 0)]⟩, all := put M.all ((i : Int) + 1) ⟨1, 0, 0, 0, ⟨20, 16, []⟩, ⟨0, ⟨64, []⟩, []⟩⟩ }, ((i : Int) + 1, 0)) := by
  rw [begin_room (by rw [I.last]; omega) (by rw [I.times, I.most]; simp)]
  simp only [I.most, I.blast, I.times, I.last, freshT, I.m, put]
/-- What one that is open becomes. -/
theorem idle_end {i : Nat} {r : Bool} {M : Mgr} {T : Trn} {L : List (Int × Trn)} {st code : Int} (I : Idle i r M) (hL : lkp L ((i : Int) + 1) = some T) :
    Idle (i + 1) r (({ M with book := ⟨16, (i : Int) + 1, [((i : Int) + 1, 0)]⟩, all := L } : Mgr).end_ ((i : Int) + 1) st code) ∧ (({ M with book := ⟨16, (i : Int) + 1, [((i : Int) + 1, 0)]⟩, all := L } : Mgr).end_ ((i : Int) + 1) st code).result ((i : Int) + 1) = (st, if st = 4 then 0 else T.time, code) := by
  have he : ({ M with book := ⟨16, (i : Int) + 1, [((i : Int) + 1, 0)]⟩, all := L } : Mgr).end_ ((i : Int) + 1) st code = { M with book := ⟨16, (i : Int) + 1, []⟩, all := put L ((i : Int) + 1) { T with state := st, code := code, time := if st = 4 then 0 else T.time } } := by
    unfold Mgr.end_ Book.close
    simp only [hL, lkp, del, if_true]
  rw [he]
  refine ⟨⟨I.m, I.read, I.out, I.queue, I.last, I.given, rfl, rfl, by simp only; omega⟩, ?_⟩
  unfold Mgr.result
  simp only [lkp_put_self]
/-- A transaction that is open and has written one block. -/
def wrote (k : Int) (d : List UInt8) : Trn := ⟨1, 0, 0, 0, ⟨20, 16, [(k, d)]⟩, ⟨0, ⟨64, []⟩, []⟩⟩
theorem idle_write {M : Mgr} {h k : Int} {d : List UInt8} {L : List (Int × Trn)} {B : Book} (hd : d.length = 40) (hk : 0 ≤ k ∧ k < 20) :
    Mgr.write { M with book := B, all := put L h ⟨1, 0, 0, 0, ⟨20, 16, []⟩, ⟨0, ⟨64, []⟩, []⟩⟩ } h [⟨k, d⟩] = ({ M with book := B, all := put L h (wrote k d) }, 0) := by
  have hop : Mgr.opn { M with book := B, all := put L h ⟨1, 0, 0, 0, ⟨20, 16, []⟩, ⟨0, ⟨64, []⟩, []⟩⟩ } h = some ⟨1, 0, 0, 0, ⟨20, 16, []⟩, ⟨0, ⟨64, []⟩, []⟩⟩ := opn_of (lkp_put_self _ _ _) rfl
  have h1 : (outOf 20 ⟨k, d⟩) = false := by simp [outOf]; omega
  unfold Mgr.write
  rw [hop]
  simp only [put_put]
  simp [Buf.write, h1, badLen, hd, twiceM, newOnes, putsIn, put, lkp, wrote]
theorem ro_end {a N i : Nat} {M : Mgr} {R : HP} {w w0 : World} {K : Bool → World → Prop} (I : Idle i true M) (ok : MgrOk N M) (hN : N ≤ 100) (h : Sat (mgrA (some ⟨a, 0, none⟩) M * (R * whole w0)) w) (hk : ∀ w', Keep w0 w' → K true w') :
    c_txn_Manager_Batch (some ⟨a, 0, none⟩) w fun (x39 : (Int × SV) × Int) w40 =>
              (withW (w40.alloc (.cells #[.int .i64 0, .slice none 0 0] 42)) fun w41 =>
               ((((∃ u, w41.cell? (⟨w40.heap.size, 0, none⟩ : Addr) = some u) ∧ w41.frozen? (⟨w40.heap.size, 0, none⟩ : Addr) = false) ∧ ((∃ u, w41.cell? ((⟨w40.heap.size, 0, none⟩ : Addr).add 1) = some u) ∧ w41.frozen? ((⟨w40.heap.size, 0, none⟩ : Addr).add 1) = false)) ∧ (true = true) ∧
                (withW ((w41.setCell (⟨w40.heap.size, 0, none⟩ : Addr) (.int .i64 x39.1.1)).setCell ((⟨w40.heap.size, 0, none⟩ : Addr).add 1) (.slice x39.1.2.a x39.1.2.n x39.1.2.c)) fun w42 =>
                 (bsplit (!decide ((x39.2 : Int) = 14))
                  (K (false) w42)
                  ((c_txn_Manager_Dump (some ⟨a, 0, none⟩) w42 fun (x43 : SV) w44 =>
                    (bsplit (!decide ((((x43.n : Nat) : Int) : Int) = 0))
                     (K (false) w44)
                     ((c_txn_Manager_Open (some ⟨a, 0, none⟩) w44 fun (x45 : Int) w46 =>
                       (bsplit (!decide ((x45 : Int) = 0))
                        (K (false) w46)
                        ((c_txn_Manager_ReadOnly (some ⟨a, 0, none⟩) false w46 fun (_ : Unit) w48 =>
                          (c_txn_Manager_Begin (some ⟨a, 0, none⟩) w48 fun (x49 : Int × Int) w50 =>
                           (bsplit (decide ((x49.2 : Int) = 0))
                            ((c_scarpalike_Data 1 w50 fun (x51 : SV) w52 =>
                              (withW (w52.alloc (.cells #[.int .i64 0, .slice x51.a x51.n x51.c] 33)) fun w53 =>
                               (c_txn_Manager_Write (some ⟨a, 0, none⟩) x49.1 (⟨(some (⟨w52.heap.size, 0, none⟩ : Addr)), 1, 1⟩) w53 fun (x54 : Int) w55 =>
                                (bsplit (decide ((x54 : Int) = 0))
                                 ((c_txn_Manager_Commit (some ⟨a, 0, none⟩) x49.1 w55 fun (x56 : Int) w57 =>
                                   (bsplit (decide ((x56 : Int) = 0))
                                    ((c_txn_Manager_Queue (some ⟨a, 0, none⟩) w57 fun (x58 : Int) w59 =>
                                      (bsplit (decide ((x58 : Int) = 1))
                                       ((c_scarplaw23_awake  w59 fun (x60 : Bool) w61 =>
                                        K (x60) w61))
                                       (K (false) w59))))
                                    (K (false) w57))))
                                 (K (false) w55))))))
                            (K (false) w50))))))))))))))) := by
  refine ok_batch h ok (by omega) fun s1 w40 ok1 h1 => ?_
  have hb : M.batch = (M, ((0, []), 14)) := by
    unfold Mgr.batch
    rw [if_neg (by rw [I.out]; omega), if_pos (by rw [I.queue]; rfl)]
  rw [hb] at h1 ok1 ⊢
  refine box2 h1 fun w42 _ h2 => ?_
  generalize w40.heap.size = b1 at h2 ⊢
  refine bsplit_iff.2 ⟨fun e => (by simp at e), fun _ => ?_⟩
  have h3 : Sat (mgrA (some ⟨a, 0, none⟩) M * ((objA (some ⟨b1, 0, none⟩) [.int .i64 0, .slice s1.a s1.n s1.c] * (batchA s1 [] * R)) * whole w0)) w42 := h2.eq (by ac_rfl)
  refine ok_dump h3 ok (by omega) fun s3 w44 h44 => ?_
  have hs3 : s3.n = 0 := by rw [pairsA_n h44, dump_length, I.m]; rfl
  rw [hs3]
  refine bsplit_iff.2 ⟨fun e => (by simp at e), fun _ => ?_⟩
  have h45 := (Keep.whole h44.right).sat h3
  refine ok_openN h45 ok (by omega) fun w46 k46 => ?_
  rw [I.times]
  refine bsplit_iff.2 ⟨fun e => (by simp at e), fun _ => ?_⟩
  refine ok_ro (k46.sat h45) ok fun w48 ok48 h48 => ?_
  have J : Idle i false { M with read := false } := ⟨I.m, rfl, I.out, I.queue, I.last, I.given, I.most, I.times, I.blast⟩
  generalize ({ M with read := false } : Mgr) = M1 at J ok48 h48
  refine ok_begin h48 ok48 (by omega) fun w50 ok50 h50 => ?_
  rw [idle_begin J] at ok50 h50 ⊢
  refine bsplit_iff.2 ⟨fun _ => ?_, fun e => (by simp at e)⟩
  refine data_c h50 fun s w52 hs h52 => ?_
  rw [withW_iff]
  have h53 := h52.alloc (.cells #[.int .i64 0, .slice s.a s.n s.c] 33)
  have hdl : (blockB 40 1).length = 40 := blockB_length _ _
  generalize blockB 40 1 = d at h53 hdl
  generalize w52.heap.size = bn at h53 ⊢
  refine ok_write (l := [⟨0, d⟩]) (h53.eq (by ac_rfl : _ = mgrA (some ⟨a, 0, none⟩) { M1 with book := ⟨16, (i : Int) + 1, [((i : Int) + 1, 0)]⟩, all := put M1.all ((i : Int) + 1) ⟨1, 0, 0, 0, ⟨20, 16, []⟩, ⟨0, ⟨64, []⟩, []⟩⟩ } * (pt bn (.cells #[.int .i64 0, .slice s.a s.n s.c] 33) * (ownS 1 s (bytesV d) * (objA (some ⟨b1, 0, none⟩) [.int .i64 0, .slice s1.a s1.n s1.c] * (batchA s1 [] * (R * whole w0))))))) ok50 (fun w' hw' => put1_on hw' rfl) (by simp) fun w55 ok55 h55 => ?_
  rw [idle_write hdl (by omega)] at h55 ok55 ⊢
  refine bsplit_iff.2 ⟨fun _ => ?_, fun e => (by simp at e)⟩
  have hop : Mgr.opn { M1 with book := ⟨16, (i : Int) + 1, [((i : Int) + 1, 0)]⟩, all := put M1.all ((i : Int) + 1) (wrote 0 d) } ((i : Int) + 1) = some (wrote 0 d) := opn_of (lkp_put_self _ _ _) rfl
  have hmay : Mgr.may { M1 with book := ⟨16, (i : Int) + 1, [((i : Int) + 1, 0)]⟩, all := put M1.all ((i : Int) + 1) (wrote 0 d) } (wrote 0 d) = 0 := by
    have hw : Mgr.waiting { M1 with book := ⟨16, (i : Int) + 1, [((i : Int) + 1, 0)]⟩, all := put M1.all ((i : Int) + 1) (wrote 0 d) } = [] := by
      show M1.queue.filterMap _ = []
      rw [J.queue]; rfl
    unfold Mgr.may
    rw [if_neg (by show ¬ M1.read = true; rw [J.read]; simp), hw, valid_nil (by show M1.m.vers = []; rw [J.m])]
    rw [if_neg (by simp), if_neg (by show ¬ _ ≤ M1.given; rw [J.given]; omega)]
  have hc : (Mgr.commit { M1 with book := ⟨16, (i : Int) + 1, [((i : Int) + 1, 0)]⟩, all := put M1.all ((i : Int) + 1) (wrote 0 d) } ((i : Int) + 1)).2 = 0 ∧ (Mgr.commit { M1 with book := ⟨16, (i : Int) + 1, [((i : Int) + 1, 0)]⟩, all := put M1.all ((i : Int) + 1) (wrote 0 d) } ((i : Int) + 1)).1.queue.length = 1 := by
    unfold Mgr.commit
    rw [hop]
    simp only []
    rw [if_neg (by simp [wrote]), hmay]
    simp [J.queue]
  refine ok_commit h55 ok55 (by omega) fun w57 ok57 h57 => ?_
  rw [hc.1]
  refine bsplit_iff.2 ⟨fun _ => ?_, fun e => (by simp at e)⟩
  refine mgr_queue h57 ?_
  rw [hc.2]
  refine bsplit_iff.2 ⟨fun _ => ?_, fun e => (by simp at e)⟩
  exact awake_c fun w61 k61 => hk _ ((Keep.whole h57.right.right.right.right.right.right).trans k61)
theorem readonly_c {n : Int} {s : SV} {l : List Bool} {w : World} {K : Bool → World → Prop} (hs : boolsOn (hp w) s l) (hk : ∀ w', Keep w w' → K true w') : c_scarplaw23_TxnReadOnly n s w K := by
  refine scarplaw23_TxnReadOnly_go ?_
  unfold f_scarplaw23_TxnReadOnly
  have hsn := hs.1
  refine bsplit_decide.2 ⟨fun _ => awake_c hk, fun h1 => ?_⟩
  refine mgr_new (n := 20) (last := 0) (sat_whole w) (by omega) (by omega) fun a w2 h => ?_
  refine bsplit_iff.2 ⟨fun e => (by cases e), fun _ => bsplit_iff.2 ⟨fun e => (by cases e), fun _ => ?_⟩⟩
  refine ok_ro h (mgrOk_new (by omega) (by omega)) fun w6 ok6 h6 => ?_
  have J0 : Idle 0 true { Mgr.new 20 0 with read := true } := ⟨rfl, rfl, rfl, rfl, rfl, rfl, rfl, rfl, rfl⟩
  refine loop_i (fun (x : Bool × Int) w' => ∃ (i : Nat) (M : Mgr), x.2 = i ∧ i ≤ l.length ∧ Idle i true M ∧ MgrOk (2 * i) M ∧ Sat (mgrA (some ⟨a, 0, none⟩) M * (1 * whole w)) w') (fun x _ => (l.length - x.2).toNat)
    ⟨0, { Mgr.new 20 0 with read := true }, rfl, by omega, J0, ok6, h6.eq (by rw [one_mul'])⟩ ?_
  rintro ⟨y, x⟩ w8 ⟨i, M, hx, hi, I, ok, hw⟩
  simp only at hx; subst hx
  dsimp only
  rw [hsn]
  refine bsplit_decide.2 ⟨fun hlt => ?_, fun hge => ro_end I ok (by omega) hw hk⟩
  have hi' : i < l.length := by omega
  obtain ⟨ad, had, hcell⟩ := hs.2 i hi'
  have cell : ∀ w', Keep w w' → w'.cell? (ad.add (((i : Nat) : Int).toNat * 1)) = some (.bool l[i]) := fun w' k => by
    rw [Int.toNat_natCast, Nat.mul_one]; exact keep_cell k hcell
  refine ok_begin hw ok (by omega) fun w11 ok11 h11 => ?_
  rw [idle_begin I] at h11 ok11 ⊢
  have e1 : IntKind.i64.wrap ((i : Int) + 1) = ((i + 1 : Nat) : Int) := by rw [wrap_of (by omega) (by omega)]; omega
  refine bsplit_iff.2 ⟨fun e => (by simp at e), fun _ => ⟨by omega, by omega, onP_i had ⟨l[i], cell _ (Keep.whole h11.right.right), ?_⟩⟩⟩
  cases hb : l[i] with
  | true =>
    refine bsplit_iff.2 ⟨fun _ => ?_, fun e => (by cases e)⟩
    refine data_c h11 fun s15 w15 hs15 h15 => ?_
    rw [withW_iff]
    have h16 := h15.alloc (.cells #[.int .i64 (i : Int), .slice s15.a s15.n s15.c] 33)
    have hdl : (blockB 40 (i : Int)).length = 40 := blockB_length _ _
    generalize blockB 40 (i : Int) = d at h16 hdl
    generalize w15.heap.size = bn at h16 ⊢
    refine ok_write (l := [⟨i, d⟩]) (h16.eq (by ac_rfl : _ = mgrA (some ⟨a, 0, none⟩) { M with book := ⟨16, (i : Int) + 1, [((i : Int) + 1, 0)]⟩, all := put M.all ((i : Int) + 1) ⟨1, 0, 0, 0, ⟨20, 16, []⟩, ⟨0, ⟨64, []⟩, []⟩⟩ } * (pt bn (.cells #[.int .i64 (i : Int), .slice s15.a s15.n s15.c] 33) * (ownS 1 s15 (bytesV d) * (1 * whole w))))) ok11 (fun w' hw' => put1_on hw' rfl) (by simp) fun w18 ok18 h18 => ?_
    rw [idle_write hdl (by omega)] at h18 ok18 ⊢
    refine bsplit_iff.2 ⟨fun e => (by simp at e), fun _ => ⟨by omega, by omega, onP_i had ⟨true, by have := cell _ (Keep.whole h18.right.right.right.right); rw [hb] at this; exact this, bsplit_iff.2 ⟨fun _ => ?_, fun e => (by cases e)⟩⟩⟩⟩
    have hop : Mgr.opn { M with book := ⟨16, (i : Int) + 1, [((i : Int) + 1, 0)]⟩, all := put M.all ((i : Int) + 1) (wrote i d) } ((i : Int) + 1) = some (wrote i d) := opn_of (lkp_put_self _ _ _) rfl
    have hc : Mgr.commit { M with book := ⟨16, (i : Int) + 1, [((i : Int) + 1, 0)]⟩, all := put M.all ((i : Int) + 1) (wrote i d) } ((i : Int) + 1) = (Mgr.end_ { M with book := ⟨16, (i : Int) + 1, [((i : Int) + 1, 0)]⟩, all := put M.all ((i : Int) + 1) (wrote i d) } ((i : Int) + 1) 4 10, 10) := by
      have hm : Mgr.may { M with book := ⟨16, (i : Int) + 1, [((i : Int) + 1, 0)]⟩, all := put M.all ((i : Int) + 1) (wrote i d) } (wrote i d) = 10 := by
        unfold Mgr.may
        rw [if_pos (show M.read = true from I.read)]
      unfold Mgr.commit
      rw [hop]
      simp only []
      rw [if_neg (by simp [wrote]), hm]
      simp
    obtain ⟨J, hres⟩ := idle_end (st := 4) (code := 10) I (lkp_put_self M.all ((i : Int) + 1) (wrote i d))
    refine ok_commit h18 ok18 (by omega) fun w22 ok22 h22 => ?_
    rw [hc] at ok22 h22 ⊢
    refine mgr_result h22 fun w24 k24 => ?_
    rw [hres]
    refine bsplit_iff.2 ⟨fun e => (by simp at e), fun _ => bsplit_iff.2 ⟨fun e => (by simp at e), fun _ => bsplit_iff.2 ⟨fun e => (by simp at e), fun _ => bsplit_iff.2 ⟨fun e => (by simp at e), fun _ => ?_⟩⟩⟩⟩
    exact ⟨⟨i + 1, _, e1, by omega, J, ok22, ((k24.sat h22).eq (by ac_rfl : _ = (pt bn (.cells #[.int .i64 (i : Int), .slice s15.a s15.n s15.c] 33) * ownS 1 s15 (bytesV d)) * (mgrA (some ⟨a, 0, none⟩) (Mgr.end_ { M with book := ⟨16, (i : Int) + 1, [((i : Int) + 1, 0)]⟩, all := put M.all ((i : Int) + 1) (wrote i d) } ((i : Int) + 1) 4 10) * (1 * whole w)))).right⟩, by rw [e1]; omega⟩
  | false =>
    refine bsplit_iff.2 ⟨fun e => (by cases e), fun _ => ⟨by omega, by omega, onP_i had ⟨false, by have := cell _ (Keep.whole h11.right.right); rw [hb] at this; exact this, bsplit_iff.2 ⟨fun e => (by cases e), fun _ => ?_⟩⟩⟩⟩
    have hop : Mgr.opn { M with book := ⟨16, (i : Int) + 1, [((i : Int) + 1, 0)]⟩, all := put M.all ((i : Int) + 1) ⟨1, 0, 0, 0, ⟨20, 16, []⟩, ⟨0, ⟨64, []⟩, []⟩⟩ } ((i : Int) + 1) = some ⟨1, 0, 0, 0, ⟨20, 16, []⟩, ⟨0, ⟨64, []⟩, []⟩⟩ := opn_of (lkp_put_self _ _ _) rfl
    have hc : Mgr.commit { M with book := ⟨16, (i : Int) + 1, [((i : Int) + 1, 0)]⟩, all := put M.all ((i : Int) + 1) ⟨1, 0, 0, 0, ⟨20, 16, []⟩, ⟨0, ⟨64, []⟩, []⟩⟩ } ((i : Int) + 1) = (Mgr.end_ { M with book := ⟨16, (i : Int) + 1, [((i : Int) + 1, 0)]⟩, all := put (put M.all ((i : Int) + 1) ⟨1, 0, 0, 0, ⟨20, 16, []⟩, ⟨0, ⟨64, []⟩, []⟩⟩) ((i : Int) + 1) ⟨1, 0, 0, 0, ⟨20, 16, []⟩, ⟨0, ⟨64, []⟩, []⟩⟩ } ((i : Int) + 1) 3 0, 0) := by
      unfold Mgr.commit
      rw [hop]
      simp
    obtain ⟨J, hres⟩ := idle_end (st := 3) (code := 0) I (lkp_put_self (put M.all ((i : Int) + 1) ⟨1, 0, 0, 0, ⟨20, 16, []⟩, ⟨0, ⟨64, []⟩, []⟩⟩) ((i : Int) + 1) ⟨1, 0, 0, 0, ⟨20, 16, []⟩, ⟨0, ⟨64, []⟩, []⟩⟩)
    refine ok_commit h11 ok11 (by omega) fun w22 ok22 h22 => ?_
    rw [hc] at ok22 h22 ⊢
    refine mgr_result h22 fun w24 k24 => ?_
    rw [hres]
    refine bsplit_iff.2 ⟨fun e => (by simp at e), fun _ => bsplit_iff.2 ⟨fun e => (by simp at e), fun _ => bsplit_iff.2 ⟨fun e => (by simp at e), fun _ => bsplit_iff.2 ⟨fun e => (by simp at e), fun _ => ?_⟩⟩⟩⟩
    exact ⟨⟨i + 1, _, e1, by omega, J, ok22, k24.sat h22⟩, by rw [e1]; omega⟩
theorem readonly_row (w : World) (a0 : Int) (s : SV) (l : List Bool) (hs : boolsOn (hp w) s l) : Calls Tryz.prog 7 #[.int .i64 a0, .slice s.a s.n s.c] w fun e w' => e = .returned (.bool true) ∧ RowKit.Below w.heap.size w w' := row_of (readonly_c hs fun _ k => ⟨rfl, k⟩)
end Go.Proofs.YtbolgpjcmchfoaaGreat
