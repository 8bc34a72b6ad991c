/- Readable conditions of functions, each tied to its own code by the kernel. -/
import Derived.Test.YtbolgpjcmchfoaaGreatTab
namespace Go.Proofs.YtbolgpjcmchfoaaGreat
open Go Go.Vc
set_option linter.unusedVariables false
/-- scarp/scarplaw23.TxnTimes; loop over (t4 : Bool, t7 : Int) -/
def f_scarplaw23_TxnTimes (a0 : Int) (a1 : Int) (w : World) (post : Bool → World → Prop) : Prop :=
  (bsplit (decide ((a0 : Int) < 0))
   ((c_scarplaw23_awake  w fun (x1 : Bool) w2 =>
     post (x1) w2))
   ((bsplit (decide ((1099511627776 : Int) < a0))
     ((c_scarplaw23_awake  w fun (x3 : Bool) w4 =>
       post (x3) w4))
     ((bsplit (decide ((a1 : Int) < 0))
       ((c_scarplaw23_awake  w fun (x5 : Bool) w6 =>
         post (x5) w6))
       ((bsplit (decide ((14 : Int) < a1))
         ((c_scarplaw23_awake  w fun (x7 : Bool) w8 =>
           post (x7) w8))
         ((c_txn_New 20 a0 w fun (x9 : (Option Addr) × Int) w10 =>
           (bsplit (!decide ((x9.2 : Int) = 0))
            (post (false) w10)
            ((bsplit ((x9.1).isNone)
              (post (false) w10)
              ((loopR (α := Bool × Int) (false, 0) w10 fun x11 w12 next13 =>
                (bsplit (decide ((x11.2 : Int) < a1))
                 ((c_txn_Manager_Begin x9.1 w12 fun (x14 : Int × Int) w15 =>
                   (bsplit (!decide ((x14.2 : Int) = 0))
                    (post (false) w15)
                    ((c_scarpalike_Data x11.2 w15 fun (x16 : SV) w17 =>
                      (withW (w17.alloc (.cells #[.int .i64 x11.2, .slice x16.a x16.n x16.c] 33)) fun w18 =>
                       (c_txn_Manager_Write x9.1 x14.1 (⟨(some (⟨w17.heap.size, 0, none⟩ : Addr)), 1, 1⟩) w18 fun (x19 : Int) w20 =>
                        (bsplit (!decide ((x19 : Int) = 0))
                         (post (false) w20)
                         ((c_txn_Manager_Commit x9.1 x14.1 w20 fun (x21 : Int) w22 =>
                           (c_txn_Manager_Result x9.1 x14.1 w22 fun (x23 : Int × Int × Int) w24 =>
                            (bsplit (decide ((x11.2 : Int) < (IntKind.i64.wrap (1099511627776 - a0))))
                             ((bsplit (!decide ((x21 : Int) = 0))
                               (post (false) w24)
                               ((bsplit (!decide ((x23.1 : Int) = 2))
                                 (post (false) w24)
                                 ((bsplit (!decide ((x23.2.1 : Int) = (IntKind.i64.wrap ((IntKind.i64.wrap (a0 + x11.2)) + 1))))
                                   (post (false) w24)
                                   (next13 (x11.1, (IntKind.i64.wrap (x11.2 + 1))) w24)))))))
                             ((bsplit (!decide ((x21 : Int) = 11))
                               (post (false) w24)
                               ((bsplit (!decide ((x23.1 : Int) = 4))
                                 (post (false) w24)
                                 ((bsplit (!decide ((x23.2.2 : Int) = 11))
                                   (post (false) w24)
                                   ((bsplit (!decide ((x23.2.1 : Int) = 0))
                                     (post (false) w24)
                                     (next13 (x11.1, (IntKind.i64.wrap (x11.2 + 1))) w24)))))))))))))))))))))
                 ((c_scarplaw23_awake  w12 fun (x25 : Bool) w26 =>
                   post (x25) w26)))))))))))))))))
theorem scarplaw23_TxnTimes_vc (a0 : Int) (a1 : Int) (w : World) (post : RT [.cell (.bool)] → World → Prop) : vcF Tryz.prog tab Tryz.f3 [.cell (.bool)] [.int .i64 a0, .int .i64 a1] w post = f_scarplaw23_TxnTimes a0 a1 w post := by kernel_rfl
theorem scarplaw23_TxnTimes_ok : okFn Tryz.f3 2 = true := by kernel_rfl
theorem scarplaw23_TxnTimes_go {w : World} {a0 : Int} {a1 : Int} {post : RT [.cell (.bool)] → World → Prop} (h : f_scarplaw23_TxnTimes a0 a1 w post) : c_scarplaw23_TxnTimes a0 a1 w post :=
    calls_of_vc tab_ok Tryz.func3 (rs := [.cell (.bool)]) (av := [.int .i64 a0, .int .i64 a1]) scarplaw23_TxnTimes_ok (Eq.mpr (scarplaw23_TxnTimes_vc a0 a1 w post) h)
/-- scarp/scarplaw23.TxnMany; loop over (t4 : Bool, t7 : Int) -/
def f_scarplaw23_TxnMany (a0 : Int) (a1 : Int) (w : World) (post : Bool → World → Prop) : Prop :=
  (bsplit (decide ((a0 : Int) < 0))
   ((c_scarplaw23_awake  w fun (x1 : Bool) w2 =>
     post (x1) w2))
   ((bsplit (decide ((25 : Int) < a0))
     ((c_scarplaw23_awake  w fun (x3 : Bool) w4 =>
       post (x3) w4))
     ((c_txn_New 5 0 w fun (x5 : (Option Addr) × Int) w6 =>
       (bsplit (!decide ((x5.2 : Int) = 0))
        (post (false) w6)
        ((bsplit ((x5.1).isNone)
          (post (false) w6)
          ((loopR (α := Bool × Int) (false, 0) w6 fun x7 w8 next9 =>
            (bsplit (decide ((x7.2 : Int) < a0))
             ((c_txn_Manager_Begin x5.1 w8 fun (x10 : Int × Int) w11 =>
               (bsplit (!((decide ((x10.2 : Int) = 0)) == (decide ((x7.2 : Int) < 16))))
                (post (false) w11)
                ((bsplit (!decide ((x10.2 : Int) = 0))
                  ((bsplit (!decide ((x10.2 : Int) = 6))
                    (post (false) w11)
                    ((bsplit (!decide ((x10.1 : Int) = 0))
                      (post (false) w11)
                      (next9 (x7.1, (IntKind.i64.wrap (x7.2 + 1))) w11)))))
                  (next9 (x7.1, (IntKind.i64.wrap (x7.2 + 1))) w11))))))
             ((bsplit (decide ((a0 : Int) < 1))
               ((c_txn_Manager_Abort x5.1 1 w8 fun (x12 : Int) w13 =>
                 (bsplit (decide ((x12 : Int) = 5))
                  ((c_scarplaw23_awake  w13 fun (x14 : Bool) w15 =>
                    post (x14) w15))
                  (post (false) w13))))
               ((c_scarpalike_Round a1 3 w8 fun (x16 : Int) w17 =>
                 (bsplit (decide ((x16 : Int) = 0))
                  ((c_txn_Manager_Abort x5.1 1 w17 fun (x18 : Int) w19 =>
                    (c_txn_Manager_Begin x5.1 w19 fun (x20 : Int × Int) w21 =>
                     (bsplit (decide ((x20.2 : Int) = 0))
                      ((c_txn_Manager_Abort x5.1 1 w21 fun (x22 : Int) w23 =>
                        (bsplit (decide ((x22 : Int) = 5))
                         ((c_scarplaw23_awake  w23 fun (x24 : Bool) w25 =>
                           post (x24) w25))
                         (post (false) w23))))
                      (post (false) w21)))))
                  ((bsplit (decide ((x16 : Int) = 1))
                    ((c_txn_Manager_Commit x5.1 1 w17 fun (x26 : Int) w27 =>
                      (c_txn_Manager_Begin x5.1 w27 fun (x28 : Int × Int) w29 =>
                       (bsplit (decide ((x28.2 : Int) = 0))
                        ((c_txn_Manager_Abort x5.1 1 w29 fun (x30 : Int) w31 =>
                          (bsplit (decide ((x30 : Int) = 5))
                           ((c_scarplaw23_awake  w31 fun (x32 : Bool) w33 =>
                             post (x32) w33))
                           (post (false) w31))))
                        (post (false) w29)))))
                    ((bsplit (decide ((x16 : Int) = 2))
                      ((c_scarpalike_Data 1 w17 fun (x34 : SV) w35 =>
                        (withW (w35.alloc (.cells #[.int .i64 0, .slice x34.a x34.n x34.c] 33)) fun w36 =>
                         (c_txn_Manager_Write x5.1 1 (⟨(some (⟨w35.heap.size, 0, none⟩ : Addr)), 1, 1⟩) w36 fun (x37 : Int) w38 =>
                          (c_txn_Manager_Commit x5.1 1 w38 fun (x39 : Int) w40 =>
                           (c_txn_Manager_Open x5.1 w40 fun (x41 : Int) w42 =>
                            (bsplit (!decide ((x41 : Int) = (if (16 : Int) < a0 then 16 else a0)))
                             (post (false) w42)
                             ((c_txn_Manager_Batch x5.1 w42 fun (x43 : (Int × SV) × Int) w44 =>
                               (c_txn_Manager_Done x5.1 0 w44 fun (x45 : Int) w46 =>
                                (c_txn_Manager_Begin x5.1 w46 fun (x47 : Int × Int) w48 =>
                                 (bsplit (decide ((x47.2 : Int) = 0))
                                  ((c_txn_Manager_Abort x5.1 1 w48 fun (x49 : Int) w50 =>
                                    (bsplit (decide ((x49 : Int) = 5))
                                     ((c_scarplaw23_awake  w50 fun (x51 : Bool) w52 =>
                                       post (x51) w52))
                                     (post (false) w50))))
                                  (post (false) w48)))))))))))))
                      ((c_txn_Manager_Begin x5.1 w17 fun (x53 : Int × Int) w54 =>
                        (bsplit (decide ((x53.2 : Int) = 0))
                         ((c_txn_Manager_Abort x5.1 1 w54 fun (x55 : Int) w56 =>
                           (bsplit (decide ((x55 : Int) = 5))
                            ((c_scarplaw23_awake  w56 fun (x57 : Bool) w58 =>
                              post (x57) w58))
                            (post (false) w56))))
                         (post (false) w54))))))))))))))))))))))))
theorem scarplaw23_TxnMany_vc (a0 : Int) (a1 : Int) (w : World) (post : RT [.cell (.bool)] → World → Prop) : vcF Tryz.prog tab Tryz.f4 [.cell (.bool)] [.int .i64 a0, .int .i64 a1] w post = f_scarplaw23_TxnMany a0 a1 w post := by kernel_rfl
theorem scarplaw23_TxnMany_ok : okFn Tryz.f4 2 = true := by kernel_rfl
theorem scarplaw23_TxnMany_go {w : World} {a0 : Int} {a1 : Int} {post : RT [.cell (.bool)] → World → Prop} (h : f_scarplaw23_TxnMany a0 a1 w post) : c_scarplaw23_TxnMany a0 a1 w post :=
    calls_of_vc tab_ok Tryz.func4 (rs := [.cell (.bool)]) (av := [.int .i64 a0, .int .i64 a1]) scarplaw23_TxnMany_ok (Eq.mpr (scarplaw23_TxnMany_vc a0 a1 w post) h)
/-- scarp/scarplaw23.TxnFails; loop over (t4 : Bool, t7 : Int); loop over (t4 : Bool, t15 : Int) -/
def f_scarplaw23_TxnFails (a0 : Int) (a1 : Int) (w : World) (post : Bool → World → Prop) : Prop :=
  (bsplit (decide ((a0 : Int) < 1))
   ((c_scarplaw23_awake  w fun (x1 : Bool) w2 =>
     post (x1) w2))
   ((bsplit (decide ((14 : Int) < a0))
     ((c_scarplaw23_awake  w fun (x3 : Bool) w4 =>
       post (x3) w4))
     ((bsplit (decide ((a1 : Int) < 1))
       ((c_scarplaw23_awake  w fun (x5 : Bool) w6 =>
         post (x5) w6))
       ((bsplit (decide ((16 : Int) < a1))
         ((c_scarplaw23_awake  w fun (x7 : Bool) w8 =>
           post (x7) w8))
         ((c_txn_New 20 0 w fun (x9 : (Option Addr) × Int) w10 =>
           (bsplit (!decide ((x9.2 : Int) = 0))
            (post (false) w10)
            ((bsplit ((x9.1).isNone)
              (post (false) w10)
              ((loopR (α := Bool × Int) (false, 0) w10 fun x11 w12 next13 =>
                (bsplit (decide ((x11.2 : Int) < a0))
                 ((c_txn_Manager_Begin x9.1 w12 fun (x14 : Int × Int) w15 =>
                   (bsplit (!decide ((x14.2 : Int) = 0))
                    (post (false) w15)
                    ((c_scarpalike_Data x11.2 w15 fun (x16 : SV) w17 =>
                      (withW (w17.alloc (.cells #[.int .i64 x11.2, .slice x16.a x16.n x16.c] 33)) fun w18 =>
                       (c_txn_Manager_Write x9.1 x14.1 (⟨(some (⟨w17.heap.size, 0, none⟩ : Addr)), 1, 1⟩) w18 fun (x19 : Int) w20 =>
                        (bsplit (!decide ((x19 : Int) = 0))
                         (post (false) w20)
                         ((c_txn_Manager_Commit x9.1 x14.1 w20 fun (x21 : Int) w22 =>
                           (bsplit (!decide ((x21 : Int) = 0))
                            (post (false) w22)
                            (next13 (x11.1, (IntKind.i64.wrap (x11.2 + 1))) w22))))))))))))
                 ((c_txn_Manager_Batch x9.1 w12 fun (x23 : (Int × SV) × Int) w24 =>
                   (withW (w24.alloc (.cells #[.int .i64 0, .slice none 0 0] 42)) fun w25 =>
                    ((((∃ u, w25.cell? (⟨w24.heap.size, 0, none⟩ : Addr) = some u) ∧ w25.frozen? (⟨w24.heap.size, 0, none⟩ : Addr) = false) ∧ ((∃ u, w25.cell? ((⟨w24.heap.size, 0, none⟩ : Addr).add 1) = some u) ∧ w25.frozen? ((⟨w24.heap.size, 0, none⟩ : Addr).add 1) = false)) ∧ (true = true) ∧
                     (withW ((w25.setCell (⟨w24.heap.size, 0, none⟩ : Addr) (.int .i64 x23.1.1)).setCell ((⟨w24.heap.size, 0, none⟩ : Addr).add 1) (.slice x23.1.2.a x23.1.2.n x23.1.2.c)) fun w26 =>
                      (c_txn_Manager_Batch x9.1 w26 fun (x27 : (Int × SV) × Int) w28 =>
                       (withW (w28.alloc (.cells #[.int .i64 0, .slice none 0 0] 42)) fun w29 =>
                        ((((∃ u, w29.cell? (⟨w28.heap.size, 0, none⟩ : Addr) = some u) ∧ w29.frozen? (⟨w28.heap.size, 0, none⟩ : Addr) = false) ∧ ((∃ u, w29.cell? ((⟨w28.heap.size, 0, none⟩ : Addr).add 1) = some u) ∧ w29.frozen? ((⟨w28.heap.size, 0, none⟩ : Addr).add 1) = false)) ∧ (true = true) ∧
                         (withW ((w29.setCell (⟨w28.heap.size, 0, none⟩ : Addr) (.int .i64 x27.1.1)).setCell ((⟨w28.heap.size, 0, none⟩ : Addr).add 1) (.slice x27.1.2.a x27.1.2.n x27.1.2.c)) fun w30 =>
                          (bsplit (!decide ((x23.2 : Int) = 0))
                           (post (false) w30)
                           ((bsplit (!decide ((x27.2 : Int) = 16))
                             (post (false) w30)
                             ((c_txn_Manager_Done x9.1 a1 w30 fun (x31 : Int) w32 =>
                               (bsplit (!decide ((x31 : Int) = 0))
                                (post (false) w32)
                                ((c_txn_Manager_Done x9.1 0 w32 fun (x33 : Int) w34 =>
                                  (bsplit (!decide ((x33 : Int) = 14))
                                   (post (false) w34)
                                   ((∃ s35 : SV, (w34.cell? ((⟨w24.heap.size, 0, none⟩ : Addr).add 1) = some (.slice s35.a s35.n s35.c)) ∧
                                     (loopR (α := Bool × Int) (x11.1, 1) w34 fun x36 w37 next38 =>
                                      (bsplit (decide ((x36.2 : Int) ≤ a0))
                                       ((c_txn_Manager_Result x9.1 x36.2 w37 fun (x39 : Int × Int × Int) w40 =>
                                        (bsplit (decide ((x36.2 : Int) ≤ ((s35.n : Nat) : Int)))
                                        ((bsplit (!decide ((x39.1 : Int) = 4))
                                        (post (false) w40)
                                        ((bsplit (!decide ((x39.2.2 : Int) = a1))
                                        (post (false) w40)
                                        ((bsplit (!decide ((x39.2.1 : Int) = 0))
                                        (post (false) w40)
                                        ((bsplit (decide ((((s35.n : Nat) : Int) : Int) < x36.2))
                                        ((bsplit (!decide ((x39.1 : Int) = 2))
                                        (post (false) w40)
                                        (next38 (x36.1, (IntKind.i64.wrap (x36.2 + 1))) w40)))
                                        (next38 (x36.1, (IntKind.i64.wrap (x36.2 + 1))) w40)))))))))
                                        ((bsplit (decide ((((s35.n : Nat) : Int) : Int) < x36.2))
                                        ((bsplit (!decide ((x39.1 : Int) = 2))
                                        (post (false) w40)
                                        (next38 (x36.1, (IntKind.i64.wrap (x36.2 + 1))) w40)))
                                        (next38 (x36.1, (IntKind.i64.wrap (x36.2 + 1))) w40))))))
                                       ((c_txn_Manager_Last x9.1 w37 fun (x41 : Int) w42 =>
                                        (bsplit (!decide ((x41 : Int) = 0))
                                        (post (false) w42)
                                        ((c_txn_Manager_Dump x9.1 w42 fun (x43 : SV) w44 =>
                                        (bsplit (!decide ((((x43.n : Nat) : Int) : Int) = 0))
                                        (post (false) w44)
                                        ((c_txn_Manager_Queue x9.1 w44 fun (x45 : Int) w46 =>
                                        (bsplit (!decide ((x45 : Int) = (IntKind.i64.wrap (a0 - ((s35.n : Nat) : Int)))))
                                        (post (false) w46)
                                        ((c_txn_Manager_Batch x9.1 w46 fun (x47 : (Int × SV) × Int) w48 =>
                                        (withW (w48.alloc (.cells #[.int .i64 0, .slice none 0 0] 42)) fun w49 =>
                                        ((((∃ u, w49.cell? (⟨w48.heap.size, 0, none⟩ : Addr) = some u) ∧ w49.frozen? (⟨w48.heap.size, 0, none⟩ : Addr) = false) ∧ ((∃ u, w49.cell? ((⟨w48.heap.size, 0, none⟩ : Addr).add 1) = some u) ∧ w49.frozen? ((⟨w48.heap.size, 0, none⟩ : Addr).add 1) = false)) ∧ (true = true) ∧
                                        (withW ((w49.setCell (⟨w48.heap.size, 0, none⟩ : Addr) (.int .i64 x47.1.1)).setCell ((⟨w48.heap.size, 0, none⟩ : Addr).add 1) (.slice x47.1.2.a x47.1.2.n x47.1.2.c)) fun w50 =>
                                        (bsplit (decide ((a0 : Int) = ((s35.n : Nat) : Int)))
                                        ((bsplit (decide ((x47.2 : Int) = 14))
                                        ((c_scarplaw23_awake  w50 fun (x51 : Bool) w52 =>
                                        post (x51) w52))
                                        (post (false) w50)))
                                        ((withW w50.drew fun w54 =>
                                        (∃ S53 : World → Prop, S53 w54 ∧
                                        (bsplit (decide ((x47.2 : Int) = 0))
                                        ((∃ n55 : Int, ((∀ w56, S53 w56 → w56.cell? (⟨w48.heap.size, 0, none⟩ : Addr) = some (.int .i64 n55))) ∧
                                        (bsplit (decide ((n55 : Int) = 1))
                                        ((c_txn_Manager_Done x9.1 0 w54 fun (x57 : Int) w58 =>
                                        (S53 w58 ∧
                                        (bsplit (decide ((x57 : Int) = 0))
                                        ((∃ s59 : SV, ((∀ w60, S53 w60 → w60.cell? ((⟨w48.heap.size, 0, none⟩ : Addr).add 1) = some (.slice s59.a s59.n s59.c))) ∧
                                        (c_txn_Manager_Dump x9.1 w58 fun (x61 : SV) w62 =>
                                        (S53 w62 ∧
                                        (bsplit (decide ((((x61.n : Nat) : Int) : Int) = ((s59.n : Nat) : Int)))
                                        ((c_scarplaw23_awake  w62 fun (x63 : Bool) w64 =>
                                        (S53 w64 ∧
                                        post (x63) w64)))
                                        (post (false) w62))))))
                                        (post (false) w58)))))
                                        (post (false) w54))))
                                        (post (false) w54)))))))))))))))))))))))))))))))))))))))))))))))))))))))))
theorem scarplaw23_TxnFails_vc (a0 : Int) (a1 : Int) (w : World) (post : RT [.cell (.bool)] → World → Prop) : vcF Tryz.prog tab Tryz.f5 [.cell (.bool)] [.int .i64 a0, .int .i64 a1] w post = f_scarplaw23_TxnFails a0 a1 w post := by kernel_rfl
theorem scarplaw23_TxnFails_ok : okFn Tryz.f5 2 = true := by kernel_rfl
theorem scarplaw23_TxnFails_go {w : World} {a0 : Int} {a1 : Int} {post : RT [.cell (.bool)] → World → Prop} (h : f_scarplaw23_TxnFails a0 a1 w post) : c_scarplaw23_TxnFails a0 a1 w post :=
    calls_of_vc tab_ok Tryz.func5 (rs := [.cell (.bool)]) (av := [.int .i64 a0, .int .i64 a1]) scarplaw23_TxnFails_ok (Eq.mpr (scarplaw23_TxnFails_vc a0 a1 w post) h)
/-- scarp/scarplaw23.TxnNothing -/
def f_scarplaw23_TxnNothing (a0 : Int) (w : World) (post : Bool → World → Prop) : Prop :=
  (c_txn_Manager_Begin none w fun (x1 : Int × Int) w2 =>
   (c_txn_Manager_Batch none w2 fun (x3 : (Int × SV) × Int) w4 =>
    (withW (w4.alloc (.cells #[.int .i64 0, .slice none 0 0] 42)) fun w5 =>
     ((((∃ u, w5.cell? (⟨w4.heap.size, 0, none⟩ : Addr) = some u) ∧ w5.frozen? (⟨w4.heap.size, 0, none⟩ : Addr) = false) ∧ ((∃ u, w5.cell? ((⟨w4.heap.size, 0, none⟩ : Addr).add 1) = some u) ∧ w5.frozen? ((⟨w4.heap.size, 0, none⟩ : Addr).add 1) = false)) ∧ (true = true) ∧
      (withW ((w5.setCell (⟨w4.heap.size, 0, none⟩ : Addr) (.int .i64 x3.1.1)).setCell ((⟨w4.heap.size, 0, none⟩ : Addr).add 1) (.slice x3.1.2.a x3.1.2.n x3.1.2.c)) fun w6 =>
       (c_txn_Manager_Result none a0 w6 fun (x7 : Int × Int × Int) w8 =>
        (c_txn_Manager_Load none (⟨none, 0, 0⟩) w8 fun (x9 : Int) w10 =>
         (bsplit (decide ((x9 : Int) = 1))
          ((bsplit (decide ((x1.2 : Int) = 6))
            ((c_txn_Manager_Commit none a0 w10 fun (x11 : Int) w12 =>
              (bsplit (decide ((x11 : Int) = 5))
               ((c_txn_Manager_Abort none a0 w12 fun (x13 : Int) w14 =>
                 (bsplit (decide ((x13 : Int) = 5))
                  ((bsplit (decide ((x3.2 : Int) = 14))
                    ((c_txn_Manager_Done none 0 w14 fun (x15 : Int) w16 =>
                      (bsplit (decide ((x15 : Int) = 14))
                       ((bsplit (decide ((x7.1 : Int) = 0))
                         ((bsplit (decide ((x7.2.1 : Int) = 0))
                           ((bsplit (decide ((x7.2.2 : Int) = 0))
                             ((c_txn_Manager_Last none w16 fun (x17 : Int) w18 =>
                               (bsplit (decide ((x17 : Int) = 0))
                                ((c_txn_Manager_Dump none w18 fun (x19 : SV) w20 =>
                                  (bsplit (decide ((((x19.n : Nat) : Int) : Int) = 0))
                                   ((c_scarplaw23_awake  w20 fun (x21 : Bool) w22 =>
                                     post (x21) w22))
                                   (post (false) w20))))
                                (post (false) w18))))
                             (post (false) w16)))
                           (post (false) w16)))
                         (post (false) w16)))
                       (post (false) w16))))
                    (post (false) w14)))
                  (post (false) w14))))
               (post (false) w12))))
            (post (false) w10)))
          (post (false) w10)))))))))
theorem scarplaw23_TxnNothing_vc (a0 : Int) (w : World) (post : RT [.cell (.bool)] → World → Prop) : vcF Tryz.prog tab Tryz.f6 [.cell (.bool)] [.int .i64 a0] w post = f_scarplaw23_TxnNothing a0 w post := by kernel_rfl
theorem scarplaw23_TxnNothing_ok : okFn Tryz.f6 1 = true := by kernel_rfl
theorem scarplaw23_TxnNothing_go {w : World} {a0 : Int} {post : RT [.cell (.bool)] → World → Prop} (h : f_scarplaw23_TxnNothing a0 w post) : c_scarplaw23_TxnNothing a0 w post :=
    calls_of_vc tab_ok Tryz.func6 (rs := [.cell (.bool)]) (av := [.int .i64 a0]) scarplaw23_TxnNothing_ok (Eq.mpr (scarplaw23_TxnNothing_vc a0 w post) h)
/-- scarp/scarplaw23.TxnReadOnly; loop over (t4 : Bool, t7 : Int) -/
def f_scarplaw23_TxnReadOnly (a0 : Int) (a1 : SV) (w : World) (post : Bool → World → Prop) : Prop :=
  (bsplit (decide ((14 : Int) < ((a1.n : Nat) : Int)))
   ((c_scarplaw23_awake  w fun (x1 : Bool) w2 =>
     post (x1) w2))
   ((c_txn_New 20 0 w fun (x3 : (Option Addr) × Int) w4 =>
     (bsplit (!decide ((x3.2 : Int) = 0))
      (post (false) w4)
      ((bsplit ((x3.1).isNone)
        (post (false) w4)
        ((c_txn_Manager_ReadOnly x3.1 true w4 fun (x5 : Unit) w6 =>
          (loopR (α := Bool × Int) (false, 0) w6 fun x7 w8 next9 =>
           (bsplit (decide ((x7.2 : Int) < ((a1.n : Nat) : Int)))
            ((c_txn_Manager_Begin x3.1 w8 fun (x10 : Int × Int) w11 =>
              (bsplit (!decide ((x10.2 : Int) = 0))
               (post (false) w11)
               ((0 ≤ (x7.2 : Int) ∧ (x7.2 : Int) < ((a1.n : Nat) : Int) ∧
                 (onP a1.a fun p12 =>
                  (∃ b13 : Bool, (w11.cell? (p12.add ((x7.2 : Int).toNat * 1)) = some (.bool b13)) ∧
                   (bsplit b13
                    ((c_scarpalike_Data x7.2 w11 fun (x14 : SV) w15 =>
                      (withW (w15.alloc (.cells #[.int .i64 x7.2, .slice x14.a x14.n x14.c] 33)) fun w16 =>
                       (c_txn_Manager_Write x3.1 x10.1 (⟨(some (⟨w15.heap.size, 0, none⟩ : Addr)), 1, 1⟩) w16 fun (x17 : Int) w18 =>
                        (bsplit (!decide ((x17 : Int) = 0))
                         (post (false) w18)
                         ((0 ≤ (x7.2 : Int) ∧ (x7.2 : Int) < ((a1.n : Nat) : Int) ∧
                           (onP a1.a fun p19 =>
                            (∃ b20 : Bool, (w18.cell? (p19.add ((x7.2 : Int).toNat * 1)) = some (.bool b20)) ∧
                             (bsplit b20
                              ((c_txn_Manager_Commit x3.1 x10.1 w18 fun (x21 : Int) w22 =>
                                (c_txn_Manager_Result x3.1 x10.1 w22 fun (x23 : Int × Int × Int) w24 =>
                                 (bsplit (!decide ((x21 : Int) = 10))
                                  (post (false) w24)
                                  ((bsplit (!decide ((x23.1 : Int) = 4))
                                    (post (false) w24)
                                    ((bsplit (!decide ((x23.2.1 : Int) = 0))
                                      (post (false) w24)
                                      ((bsplit (!decide ((x23.2.2 : Int) = 10))
                                        (post (false) w24)
                                        (next9 (x7.1, (IntKind.i64.wrap (x7.2 + 1))) w24)))))))))))
                              ((c_txn_Manager_Commit x3.1 x10.1 w18 fun (x25 : Int) w26 =>
                                (c_txn_Manager_Result x3.1 x10.1 w26 fun (x27 : Int × Int × Int) w28 =>
                                 (bsplit (!decide ((x25 : Int) = 0))
                                  (post (false) w28)
                                  ((bsplit (!decide ((x27.1 : Int) = 3))
                                    (post (false) w28)
                                    ((bsplit (!decide ((x27.2.1 : Int) = 0))
                                      (post (false) w28)
                                      ((bsplit (!decide ((x27.2.2 : Int) = 0))
                                        (post (false) w28)
                                        (next9 (x7.1, (IntKind.i64.wrap (x7.2 + 1))) w28)))))))))))))))))))))
                    ((0 ≤ (x7.2 : Int) ∧ (x7.2 : Int) < ((a1.n : Nat) : Int) ∧
                      (onP a1.a fun p29 =>
                       (∃ b30 : Bool, (w11.cell? (p29.add ((x7.2 : Int).toNat * 1)) = some (.bool b30)) ∧
                        (bsplit b30
                         ((c_txn_Manager_Commit x3.1 x10.1 w11 fun (x31 : Int) w32 =>
                           (c_txn_Manager_Result x3.1 x10.1 w32 fun (x33 : Int × Int × Int) w34 =>
                            (bsplit (!decide ((x31 : Int) = 10))
                             (post (false) w34)
                             ((bsplit (!decide ((x33.1 : Int) = 4))
                               (post (false) w34)
                               ((bsplit (!decide ((x33.2.1 : Int) = 0))
                                 (post (false) w34)
                                 ((bsplit (!decide ((x33.2.2 : Int) = 10))
                                   (post (false) w34)
                                   (next9 (x7.1, (IntKind.i64.wrap (x7.2 + 1))) w34)))))))))))
                         ((c_txn_Manager_Commit x3.1 x10.1 w11 fun (x35 : Int) w36 =>
                           (c_txn_Manager_Result x3.1 x10.1 w36 fun (x37 : Int × Int × Int) w38 =>
                            (bsplit (!decide ((x35 : Int) = 0))
                             (post (false) w38)
                             ((bsplit (!decide ((x37.1 : Int) = 3))
                               (post (false) w38)
                               ((bsplit (!decide ((x37.2.1 : Int) = 0))
                                 (post (false) w38)
                                 ((bsplit (!decide ((x37.2.2 : Int) = 0))
                                   (post (false) w38)
                                   (next9 (x7.1, (IntKind.i64.wrap (x7.2 + 1))) w38))))))))))))))))))))))))
            ((c_txn_Manager_Batch x3.1 w8 fun (x39 : (Int × SV) × Int) w40 =>
              (withW (w40.alloc (.cells #[.int .i64 0, .slice none 0 0] 42)) fun w41 =>
               ((((∃ u, w41.cell? (⟨w40.heap.size, 0, none⟩ : Addr) = some u) ∧ w41.frozen? (⟨w40.heap.size, 0, none⟩ : Addr) = false) ∧ ((∃ u, w41.cell? ((⟨w40.heap.size, 0, none⟩ : Addr).add 1) = some u) ∧ w41.frozen? ((⟨w40.heap.size, 0, none⟩ : Addr).add 1) = false)) ∧ (true = true) ∧
                (withW ((w41.setCell (⟨w40.heap.size, 0, none⟩ : Addr) (.int .i64 x39.1.1)).setCell ((⟨w40.heap.size, 0, none⟩ : Addr).add 1) (.slice x39.1.2.a x39.1.2.n x39.1.2.c)) fun w42 =>
                 (bsplit (!decide ((x39.2 : Int) = 14))
                  (post (false) w42)
                  ((c_txn_Manager_Dump x3.1 w42 fun (x43 : SV) w44 =>
                    (bsplit (!decide ((((x43.n : Nat) : Int) : Int) = 0))
                     (post (false) w44)
                     ((c_txn_Manager_Open x3.1 w44 fun (x45 : Int) w46 =>
                       (bsplit (!decide ((x45 : Int) = 0))
                        (post (false) w46)
                        ((c_txn_Manager_ReadOnly x3.1 false w46 fun (x47 : Unit) w48 =>
                          (c_txn_Manager_Begin x3.1 w48 fun (x49 : Int × Int) w50 =>
                           (bsplit (decide ((x49.2 : Int) = 0))
                            ((c_scarpalike_Data 1 w50 fun (x51 : SV) w52 =>
                              (withW (w52.alloc (.cells #[.int .i64 0, .slice x51.a x51.n x51.c] 33)) fun w53 =>
                               (c_txn_Manager_Write x3.1 x49.1 (⟨(some (⟨w52.heap.size, 0, none⟩ : Addr)), 1, 1⟩) w53 fun (x54 : Int) w55 =>
                                (bsplit (decide ((x54 : Int) = 0))
                                 ((c_txn_Manager_Commit x3.1 x49.1 w55 fun (x56 : Int) w57 =>
                                   (bsplit (decide ((x56 : Int) = 0))
                                    ((c_txn_Manager_Queue x3.1 w57 fun (x58 : Int) w59 =>
                                      (bsplit (decide ((x58 : Int) = 1))
                                       ((c_scarplaw23_awake  w59 fun (x60 : Bool) w61 =>
                                        post (x60) w61))
                                       (post (false) w59))))
                                    (post (false) w57))))
                                 (post (false) w55))))))
                            (post (false) w50)))))))))))))))))))))))))))
theorem scarplaw23_TxnReadOnly_vc (a0 : Int) (a1 : SV) (w : World) (post : RT [.cell (.bool)] → World → Prop) : vcF Tryz.prog tab Tryz.f7 [.cell (.bool)] [.int .i64 a0, .slice a1.a a1.n a1.c] w post = f_scarplaw23_TxnReadOnly a0 a1 w post := by kernel_rfl
theorem scarplaw23_TxnReadOnly_ok : okFn Tryz.f7 2 = true := by kernel_rfl
theorem scarplaw23_TxnReadOnly_go {w : World} {a0 : Int} {a1 : SV} {post : RT [.cell (.bool)] → World → Prop} (h : f_scarplaw23_TxnReadOnly a0 a1 w post) : c_scarplaw23_TxnReadOnly a0 a1 w post :=
    calls_of_vc tab_ok Tryz.func7 (rs := [.cell (.bool)]) (av := [.int .i64 a0, .slice a1.a a1.n a1.c]) scarplaw23_TxnReadOnly_ok (Eq.mpr (scarplaw23_TxnReadOnly_vc a0 a1 w post) h)
/-- scarp/scarplaw23.TxnClash -/
def f_scarplaw23_TxnClash (a0 : Int) (a1 : Int) (a2 : Int) (a3 : Int) (a4 : Bool) (w : World) (post : Bool → World → Prop) : Prop :=
  (c_txn_New 10 0 w fun (x1 : (Option Addr) × Int) w2 =>
   (bsplit (!decide ((x1.2 : Int) = 0))
    (post (false) w2)
    ((bsplit ((x1.1).isNone)
      (post (false) w2)
      ((c_scarpalike_Round a0 10 w2 fun (x3 : Int) w4 =>
        (c_scarpalike_Round a1 10 w4 fun (x5 : Int) w6 =>
         (c_scarpalike_Round a2 10 w6 fun (x7 : Int) w8 =>
          (c_scarpalike_Round a3 10 w8 fun (x9 : Int) w10 =>
           (c_txn_Manager_Begin x1.1 w10 fun (x11 : Int × Int) w12 =>
            (c_txn_Manager_Begin x1.1 w12 fun (x13 : Int × Int) w14 =>
             (bsplit (!decide ((x11.2 : Int) = 0))
              (post (false) w14)
              ((bsplit (!decide ((x13.2 : Int) = 0))
                (post (false) w14)
                ((c_txn_Manager_Read x1.1 x11.1 x3 1 w14 fun (x15 : SV × Int) w16 =>
                  (c_txn_Manager_Read x1.1 x13.1 x7 1 w16 fun (x17 : SV × Int) w18 =>
                   (bsplit (!decide ((x15.2 : Int) = 0))
                    (post (false) w18)
                    ((bsplit (!decide ((x17.2 : Int) = 0))
                      (post (false) w18)
                      ((c_scarpalike_Data 1 w18 fun (x19 : SV) w20 =>
                        (withW (w20.alloc (.cells #[.int .i64 x5, .slice x19.a x19.n x19.c] 33)) fun w21 =>
                         (c_txn_Manager_Write x1.1 x11.1 (⟨(some (⟨w20.heap.size, 0, none⟩ : Addr)), 1, 1⟩) w21 fun (x22 : Int) w23 =>
                          (bsplit (!decide ((x22 : Int) = 0))
                           (post (false) w23)
                           ((c_scarpalike_Data 2 w23 fun (x24 : SV) w25 =>
                             (withW (w25.alloc (.cells #[.int .i64 x9, .slice x24.a x24.n x24.c] 33)) fun w26 =>
                              (c_txn_Manager_Write x1.1 x13.1 (⟨(some (⟨w25.heap.size, 0, none⟩ : Addr)), 1, 1⟩) w26 fun (x27 : Int) w28 =>
                               (bsplit (!decide ((x27 : Int) = 0))
                                (post (false) w28)
                                ((c_txn_Manager_Commit x1.1 x11.1 w28 fun (x29 : Int) w30 =>
                                  (bsplit (!decide ((x29 : Int) = 0))
                                   (post (false) w30)
                                   ((bsplit a4
                                     ((c_txn_Manager_Batch x1.1 w30 fun (x31 : (Int × SV) × Int) w32 =>
                                       (c_txn_Manager_Done x1.1 0 w32 fun (x33 : Int) w34 =>
                                        (bsplit (decide ((x5 : Int) = x7))
                                        ((c_txn_Manager_Commit x1.1 x13.1 w34 fun (x35 : Int) w36 =>
                                        (bsplit (!decide ((x35 : Int) = 8))
                                        (post (false) w36)
                                        ((c_txn_Manager_Result x1.1 x13.1 w36 fun (x37 : Int × Int × Int) w38 =>
                                        (bsplit (decide ((x37.1 : Int) = 4))
                                        ((bsplit (decide ((x37.2.2 : Int) = 8))
                                        ((c_scarplaw23_awake  w38 fun (x39 : Bool) w40 =>
                                        post (x39) w40))
                                        (post (false) w38)))
                                        (post (false) w38)))))))
                                        ((bsplit (decide ((x5 : Int) = x9))
                                        ((c_txn_Manager_Commit x1.1 x13.1 w34 fun (x41 : Int) w42 =>
                                        (bsplit (!decide ((x41 : Int) = 8))
                                        (post (false) w42)
                                        ((c_txn_Manager_Result x1.1 x13.1 w42 fun (x43 : Int × Int × Int) w44 =>
                                        (bsplit (decide ((x43.1 : Int) = 4))
                                        ((bsplit (decide ((x43.2.2 : Int) = 8))
                                        ((c_scarplaw23_awake  w44 fun (x45 : Bool) w46 =>
                                        post (x45) w46))
                                        (post (false) w44)))
                                        (post (false) w44)))))))
                                        ((c_txn_Manager_Commit x1.1 x13.1 w34 fun (x47 : Int) w48 =>
                                        (bsplit (!decide ((x47 : Int) = 0))
                                        (post (false) w48)
                                        ((c_txn_Manager_Result x1.1 x13.1 w48 fun (x49 : Int × Int × Int) w50 =>
                                        (c_scarplaw23_awake  w50 fun (x51 : Bool) w52 =>
                                        post (x51) w52))))))))))))
                                     ((bsplit (decide ((x5 : Int) = x7))
                                       ((c_txn_Manager_Commit x1.1 x13.1 w30 fun (x53 : Int) w54 =>
                                        (bsplit (!decide ((x53 : Int) = 8))
                                        (post (false) w54)
                                        ((c_txn_Manager_Result x1.1 x13.1 w54 fun (x55 : Int × Int × Int) w56 =>
                                        (bsplit (decide ((x55.1 : Int) = 4))
                                        ((bsplit (decide ((x55.2.2 : Int) = 8))
                                        ((c_scarplaw23_awake  w56 fun (x57 : Bool) w58 =>
                                        post (x57) w58))
                                        (post (false) w56)))
                                        (post (false) w56)))))))
                                       ((bsplit (decide ((x5 : Int) = x9))
                                        ((c_txn_Manager_Commit x1.1 x13.1 w30 fun (x59 : Int) w60 =>
                                        (bsplit (!decide ((x59 : Int) = 8))
                                        (post (false) w60)
                                        ((c_txn_Manager_Result x1.1 x13.1 w60 fun (x61 : Int × Int × Int) w62 =>
                                        (bsplit (decide ((x61.1 : Int) = 4))
                                        ((bsplit (decide ((x61.2.2 : Int) = 8))
                                        ((c_scarplaw23_awake  w62 fun (x63 : Bool) w64 =>
                                        post (x63) w64))
                                        (post (false) w62)))
                                        (post (false) w62)))))))
                                        ((c_txn_Manager_Commit x1.1 x13.1 w30 fun (x65 : Int) w66 =>
                                        (bsplit (!decide ((x65 : Int) = 0))
                                        (post (false) w66)
                                        ((c_txn_Manager_Result x1.1 x13.1 w66 fun (x67 : Int × Int × Int) w68 =>
                                        (c_scarplaw23_awake  w68 fun (x69 : Bool) w70 =>
                                        post (x69) w70)))))))))))))))))))))))))))))))))))))))))))))
theorem scarplaw23_TxnClash_vc (a0 : Int) (a1 : Int) (a2 : Int) (a3 : Int) (a4 : Bool) (w : World) (post : RT [.cell (.bool)] → World → Prop) : vcF Tryz.prog tab Tryz.f8 [.cell (.bool)] [.int .i64 a0, .int .i64 a1, .int .i64 a2, .int .i64 a3, .bool a4] w post = f_scarplaw23_TxnClash a0 a1 a2 a3 a4 w post := by kernel_rfl
theorem scarplaw23_TxnClash_ok : okFn Tryz.f8 5 = true := by kernel_rfl
theorem scarplaw23_TxnClash_go {w : World} {a0 : Int} {a1 : Int} {a2 : Int} {a3 : Int} {a4 : Bool} {post : RT [.cell (.bool)] → World → Prop} (h : f_scarplaw23_TxnClash a0 a1 a2 a3 a4 w post) : c_scarplaw23_TxnClash a0 a1 a2 a3 a4 w post :=
    calls_of_vc tab_ok Tryz.func8 (rs := [.cell (.bool)]) (av := [.int .i64 a0, .int .i64 a1, .int .i64 a2, .int .i64 a3, .bool a4]) scarplaw23_TxnClash_ok (Eq.mpr (scarplaw23_TxnClash_vc a0 a1 a2 a3 a4 w post) h)
/-- scarp/scarplaw23.TxnOwn; loop over (t6 : Bool, t14 : Int) -/
def f_scarplaw23_TxnOwn (a0 : Int) (a1 : Int) (a2 : Bool) (w : World) (post : Bool → World → Prop) : Prop :=
  (bsplit (decide ((a1 : Int) < 1))
   ((c_scarplaw23_awake  w fun (x1 : Bool) w2 =>
     post (x1) w2))
   ((bsplit (decide ((8 : Int) < a1))
     ((c_scarplaw23_awake  w fun (x3 : Bool) w4 =>
       post (x3) w4))
     ((c_txn_New 20 0 w fun (x5 : (Option Addr) × Int) w6 =>
       (bsplit (!decide ((x5.2 : Int) = 0))
        (post (false) w6)
        ((bsplit ((x5.1).isNone)
          (post (false) w6)
          ((c_scarpalike_Round a0 20 w6 fun (x7 : Int) w8 =>
            (withW (w8.alloc (.cells #[.int .i64 0, .int .i64 0] 56)) fun w9 =>
             ((((∃ u, w9.cell? (⟨w8.heap.size, 0, none⟩ : Addr) = some u) ∧ w9.frozen? (⟨w8.heap.size, 0, none⟩ : Addr) = false) ∧ ((∃ u, w9.cell? ((⟨w8.heap.size, 0, none⟩ : Addr).add 1) = some u) ∧ w9.frozen? ((⟨w8.heap.size, 0, none⟩ : Addr).add 1) = false)) ∧ (true = true) ∧
              (withW ((w9.setCell (⟨w8.heap.size, 0, none⟩ : Addr) (.int .i64 x7)).setCell ((⟨w8.heap.size, 0, none⟩ : Addr).add 1) (.int .i64 1)) fun w10 =>
               (c_txn_Manager_Begin x5.1 w10 fun (x11 : Int × Int) w12 =>
                (c_txn_Manager_Begin x5.1 w12 fun (x13 : Int × Int) w14 =>
                 (bsplit (!decide ((x11.2 : Int) = 0))
                  (post (false) w14)
                  ((bsplit (!decide ((x13.2 : Int) = 0))
                    (post (false) w14)
                    ((loopR (α := Bool × Int) (false, 0) w14 fun x15 w16 next17 =>
                      (bsplit (decide ((x15.2 : Int) < a1))
                       ((c_scarpalike_Data x15.2 w16 fun (x18 : SV) w19 =>
                         (withW (w19.alloc (.cells #[.int .i64 x7, .slice x18.a x18.n x18.c] 33)) fun w20 =>
                          (c_txn_Manager_Write x5.1 x11.1 (⟨(some (⟨w19.heap.size, 0, none⟩ : Addr)), 1, 1⟩) w20 fun (x21 : Int) w22 =>
                           (bsplit (!decide ((x21 : Int) = 0))
                            (post (false) w22)
                            ((∃ g23 : Int × Int, (w22.cell? (⟨w8.heap.size, 0, none⟩ : Addr) = some (.int .i64 g23.1) ∧ w22.cell? ((⟨w8.heap.size, 0, none⟩ : Addr).add 1) = some (.int .i64 g23.2)) ∧
                              (c_txn_Manager_Read x5.1 x11.1 g23.1 g23.2 w22 fun (x24 : SV × Int) w25 =>
                               (∃ g26 : Int × Int, (w25.cell? (⟨w8.heap.size, 0, none⟩ : Addr) = some (.int .i64 g26.1) ∧ w25.cell? ((⟨w8.heap.size, 0, none⟩ : Addr).add 1) = some (.int .i64 g26.2)) ∧
                                (c_txn_Manager_Read x5.1 x13.1 g26.1 g26.2 w25 fun (x27 : SV × Int) w28 =>
                                 (bsplit (!decide ((x24.2 : Int) = 0))
                                  (post (false) w28)
                                  ((bsplit (!decide ((x27.2 : Int) = 0))
                                    (post (false) w28)
                                    ((c_scarpalike_Data x15.2 w28 fun (x29 : SV) w30 =>
                                      (c_scarpalike_Bytes x24.1 x29 w30 fun (x31 : Bool) w32 =>
                                       (bsplit (!x31)
                                        (post (false) w32)
                                        ((0 ≤ (40 : Int) ∧ (40 : Int) ≤ 40 ∧ ((1 : Nat) : Int) * 40 ≤ 2 ^ 48 ∧ (40 : Int) ≤ 2 ^ 48 ∧
                                        (withW (w32.alloc (.cells (zrow [.int .u8 0] (40 : Int).toNat).toArray 5)) fun w33 =>
                                        (c_scarpalike_Bytes x27.1 (⟨(some (⟨w32.heap.size, 0, none⟩ : Addr)), ((40 : Int).toNat), ((40 : Int).toNat)⟩) w33 fun (x34 : Bool) w35 =>
                                        (bsplit (!x34)
                                        (post (false) w35)
                                        (next17 (x15.1, (IntKind.i64.wrap (x15.2 + 1))) w35)))))))))))))))))))))))
                       ((bsplit a2
                         ((c_txn_Manager_Abort x5.1 x11.1 w16 fun (x36 : Int) w37 =>
                           (bsplit (!decide ((x36 : Int) = 0))
                            (post (false) w37)
                            ((c_txn_Manager_Batch x5.1 w37 fun (x38 : (Int × SV) × Int) w39 =>
                              (c_txn_Manager_Done x5.1 0 w39 fun (x40 : Int) w41 =>
                               (c_txn_Manager_Begin x5.1 w41 fun (x42 : Int × Int) w43 =>
                                (∃ g44 : Int × Int, (w43.cell? (⟨w8.heap.size, 0, none⟩ : Addr) = some (.int .i64 g44.1) ∧ w43.cell? ((⟨w8.heap.size, 0, none⟩ : Addr).add 1) = some (.int .i64 g44.2)) ∧
                                 (c_txn_Manager_Read x5.1 x42.1 g44.1 g44.2 w43 fun (x45 : SV × Int) w46 =>
                                  (∃ g47 : Int × Int, (w46.cell? (⟨w8.heap.size, 0, none⟩ : Addr) = some (.int .i64 g47.1) ∧ w46.cell? ((⟨w8.heap.size, 0, none⟩ : Addr).add 1) = some (.int .i64 g47.2)) ∧
                                   (c_txn_Manager_Read x5.1 x13.1 g47.1 g47.2 w46 fun (x48 : SV × Int) w49 =>
                                    (c_scarpalike_Data (IntKind.i64.wrap (a1 - 1)) w49 fun (x50 : SV) w51 =>
                                     (bsplit a2
                                      ((0 ≤ (40 : Int) ∧ (40 : Int) ≤ 40 ∧ ((1 : Nat) : Int) * 40 ≤ 2 ^ 48 ∧ (40 : Int) ≤ 2 ^ 48 ∧
                                        (withW (w51.alloc (.cells (zrow [.int .u8 0] (40 : Int).toNat).toArray 5)) fun w52 =>
                                        (bsplit (decide ((x42.2 : Int) = 0))
                                        ((bsplit (decide ((x45.2 : Int) = 0))
                                        ((bsplit (decide ((x48.2 : Int) = 0))
                                        ((c_scarpalike_Bytes x45.1 (⟨(some (⟨w51.heap.size, 0, none⟩ : Addr)), ((40 : Int).toNat), ((40 : Int).toNat)⟩) w52 fun (x53 : Bool) w54 =>
                                        (bsplit x53
                                        ((0 ≤ (40 : Int) ∧ (40 : Int) ≤ 40 ∧ ((1 : Nat) : Int) * 40 ≤ 2 ^ 48 ∧ (40 : Int) ≤ 2 ^ 48 ∧
                                        (withW (w54.alloc (.cells (zrow [.int .u8 0] (40 : Int).toNat).toArray 5)) fun w55 =>
                                        (c_scarpalike_Bytes x48.1 (⟨(some (⟨w54.heap.size, 0, none⟩ : Addr)), ((40 : Int).toNat), ((40 : Int).toNat)⟩) w55 fun (x56 : Bool) w57 =>
                                        (bsplit x56
                                        ((c_scarplaw23_awake  w57 fun (x58 : Bool) w59 =>
                                        post (x58) w59))
                                        (post (false) w57))))))
                                        (post (false) w54))))
                                        (post (false) w52)))
                                        (post (false) w52)))
                                        (post (false) w52)))))
                                      ((bsplit (decide ((x42.2 : Int) = 0))
                                        ((bsplit (decide ((x45.2 : Int) = 0))
                                        ((bsplit (decide ((x48.2 : Int) = 0))
                                        ((c_scarpalike_Bytes x45.1 x50 w51 fun (x60 : Bool) w61 =>
                                        (bsplit x60
                                        ((0 ≤ (40 : Int) ∧ (40 : Int) ≤ 40 ∧ ((1 : Nat) : Int) * 40 ≤ 2 ^ 48 ∧ (40 : Int) ≤ 2 ^ 48 ∧
                                        (withW (w61.alloc (.cells (zrow [.int .u8 0] (40 : Int).toNat).toArray 5)) fun w62 =>
                                        (c_scarpalike_Bytes x48.1 (⟨(some (⟨w61.heap.size, 0, none⟩ : Addr)), ((40 : Int).toNat), ((40 : Int).toNat)⟩) w62 fun (x63 : Bool) w64 =>
                                        (bsplit x63
                                        ((c_scarplaw23_awake  w64 fun (x65 : Bool) w66 =>
                                        post (x65) w66))
                                        (post (false) w64))))))
                                        (post (false) w61))))
                                        (post (false) w51)))
                                        (post (false) w51)))
                                        (post (false) w51))))))))))))))))
                         ((c_txn_Manager_Commit x5.1 x11.1 w16 fun (x67 : Int) w68 =>
                           (bsplit (!decide ((x67 : Int) = 0))
                            (post (false) w68)
                            ((c_txn_Manager_Batch x5.1 w68 fun (x69 : (Int × SV) × Int) w70 =>
                              (c_txn_Manager_Done x5.1 0 w70 fun (x71 : Int) w72 =>
                               (c_txn_Manager_Begin x5.1 w72 fun (x73 : Int × Int) w74 =>
                                (∃ g75 : Int × Int, (w74.cell? (⟨w8.heap.size, 0, none⟩ : Addr) = some (.int .i64 g75.1) ∧ w74.cell? ((⟨w8.heap.size, 0, none⟩ : Addr).add 1) = some (.int .i64 g75.2)) ∧
                                 (c_txn_Manager_Read x5.1 x73.1 g75.1 g75.2 w74 fun (x76 : SV × Int) w77 =>
                                  (∃ g78 : Int × Int, (w77.cell? (⟨w8.heap.size, 0, none⟩ : Addr) = some (.int .i64 g78.1) ∧ w77.cell? ((⟨w8.heap.size, 0, none⟩ : Addr).add 1) = some (.int .i64 g78.2)) ∧
                                   (c_txn_Manager_Read x5.1 x13.1 g78.1 g78.2 w77 fun (x79 : SV × Int) w80 =>
                                    (c_scarpalike_Data (IntKind.i64.wrap (a1 - 1)) w80 fun (x81 : SV) w82 =>
                                     (bsplit a2
                                      ((0 ≤ (40 : Int) ∧ (40 : Int) ≤ 40 ∧ ((1 : Nat) : Int) * 40 ≤ 2 ^ 48 ∧ (40 : Int) ≤ 2 ^ 48 ∧
                                        (withW (w82.alloc (.cells (zrow [.int .u8 0] (40 : Int).toNat).toArray 5)) fun w83 =>
                                        (bsplit (decide ((x73.2 : Int) = 0))
                                        ((bsplit (decide ((x76.2 : Int) = 0))
                                        ((bsplit (decide ((x79.2 : Int) = 0))
                                        ((c_scarpalike_Bytes x76.1 (⟨(some (⟨w82.heap.size, 0, none⟩ : Addr)), ((40 : Int).toNat), ((40 : Int).toNat)⟩) w83 fun (x84 : Bool) w85 =>
                                        (bsplit x84
                                        ((0 ≤ (40 : Int) ∧ (40 : Int) ≤ 40 ∧ ((1 : Nat) : Int) * 40 ≤ 2 ^ 48 ∧ (40 : Int) ≤ 2 ^ 48 ∧
                                        (withW (w85.alloc (.cells (zrow [.int .u8 0] (40 : Int).toNat).toArray 5)) fun w86 =>
                                        (c_scarpalike_Bytes x79.1 (⟨(some (⟨w85.heap.size, 0, none⟩ : Addr)), ((40 : Int).toNat), ((40 : Int).toNat)⟩) w86 fun (x87 : Bool) w88 =>
                                        (bsplit x87
                                        ((c_scarplaw23_awake  w88 fun (x89 : Bool) w90 =>
                                        post (x89) w90))
                                        (post (false) w88))))))
                                        (post (false) w85))))
                                        (post (false) w83)))
                                        (post (false) w83)))
                                        (post (false) w83)))))
                                      ((bsplit (decide ((x73.2 : Int) = 0))
                                        ((bsplit (decide ((x76.2 : Int) = 0))
                                        ((bsplit (decide ((x79.2 : Int) = 0))
                                        ((c_scarpalike_Bytes x76.1 x81 w82 fun (x91 : Bool) w92 =>
                                        (bsplit x91
                                        ((0 ≤ (40 : Int) ∧ (40 : Int) ≤ 40 ∧ ((1 : Nat) : Int) * 40 ≤ 2 ^ 48 ∧ (40 : Int) ≤ 2 ^ 48 ∧
                                        (withW (w92.alloc (.cells (zrow [.int .u8 0] (40 : Int).toNat).toArray 5)) fun w93 =>
                                        (c_scarpalike_Bytes x79.1 (⟨(some (⟨w92.heap.size, 0, none⟩ : Addr)), ((40 : Int).toNat), ((40 : Int).toNat)⟩) w93 fun (x94 : Bool) w95 =>
                                        (bsplit x94
                                        ((c_scarplaw23_awake  w95 fun (x96 : Bool) w97 =>
                                        post (x96) w97))
                                        (post (false) w95))))))
                                        (post (false) w92))))
                                        (post (false) w82)))
                                        (post (false) w82)))
                                        (post (false) w82)))))))))))))))))))))))))))))))))))))))
theorem scarplaw23_TxnOwn_vc (a0 : Int) (a1 : Int) (a2 : Bool) (w : World) (post : RT [.cell (.bool)] → World → Prop) : vcF Tryz.prog tab Tryz.f9 [.cell (.bool)] [.int .i64 a0, .int .i64 a1, .bool a2] w post = f_scarplaw23_TxnOwn a0 a1 a2 w post := by kernel_rfl
theorem scarplaw23_TxnOwn_ok : okFn Tryz.f9 3 = true := by kernel_rfl
theorem scarplaw23_TxnOwn_go {w : World} {a0 : Int} {a1 : Int} {a2 : Bool} {post : RT [.cell (.bool)] → World → Prop} (h : f_scarplaw23_TxnOwn a0 a1 a2 w post) : c_scarplaw23_TxnOwn a0 a1 a2 w post :=
    calls_of_vc tab_ok Tryz.func9 (rs := [.cell (.bool)]) (av := [.int .i64 a0, .int .i64 a1, .bool a2]) scarplaw23_TxnOwn_ok (Eq.mpr (scarplaw23_TxnOwn_vc a0 a1 a2 w post) h)
/-- scarp/scarplaw23.TxnLoads; loop over (t6 : Bool, t12 : Int); loop over (t6 : Bool, t12 : Int) -/
def f_scarplaw23_TxnLoads (a0 : Int) (a1 : SV) (a2c0 : Int) (a2c1 : Int) (w : World) (post : Bool → World → Prop) : Prop :=
  (withW (w.alloc (.cells #[.int .i64 a2c0, .int .i64 a2c1] 56)) fun w1 =>
   (c_scarpalike_Puts a1 5000 w1 fun (x2 : Int) w3 =>
    (bsplit (decide ((5000 : Int) < x2))
     ((c_scarplaw23_awake  w3 fun (x4 : Bool) w5 =>
       post (x4) w5))
     ((bsplit (decide ((a0 : Int) < 0))
       ((c_scarplaw23_awake  w3 fun (x6 : Bool) w7 =>
         post (x6) w7))
       ((bsplit (decide ((1099511627776 : Int) ≤ a0))
         ((c_scarplaw23_awake  w3 fun (x8 : Bool) w9 =>
           post (x8) w9))
         ((c_txn_New 20 a0 w3 fun (x10 : (Option Addr) × Int) w11 =>
           (bsplit (!decide ((x10.2 : Int) = 0))
            (post (false) w11)
            ((bsplit ((x10.1).isNone)
              (post (false) w11)
              ((c_txn_Manager_Load x10.1 a1 w11 fun (x12 : Int) w13 =>
                (bsplit (!decide ((x12 : Int) = 0))
                 ((c_txn_Manager_Dump x10.1 w13 fun (x14 : SV) w15 =>
                   (bsplit (decide ((((x14.n : Nat) : Int) : Int) = 0))
                    ((c_txn_Manager_Last x10.1 w15 fun (x16 : Int) w17 =>
                      (bsplit (decide ((x16 : Int) = a0))
                       ((c_scarplaw23_awake  w17 fun (x18 : Bool) w19 =>
                         post (x18) w19))
                       (post (false) w17))))
                    (post (false) w15))))
                 ((c_txn_Manager_Dump x10.1 w13 fun (x20 : SV) w21 =>
                   (c_scarpref11_SamePuts x20 a1 w21 fun (x22 : Bool) w23 =>
                    (bsplit (!x22)
                     (post (false) w23)
                     ((c_txn_Manager_Last x10.1 w23 fun (x24 : Int) w25 =>
                       (bsplit (!decide ((x24 : Int) = a0))
                        (post (false) w25)
                        ((bsplit (decide ((0 : Int) < ((a1.n : Nat) : Int)))
                          ((c_txn_Manager_Load x10.1 a1 w25 fun (x26 : Int) w27 =>
                            (bsplit (decide ((x26 : Int) = 0))
                             (post (false) w27)
                             ((c_txn_Manager_Begin x10.1 w27 fun (x28 : Int × Int) w29 =>
                               (bsplit (!decide ((x28.2 : Int) = 0))
                                (post (false) w29)
                                ((c_txn_Manager_Load x10.1 a1 w29 fun (x30 : Int) w31 =>
                                  (bsplit (!decide ((x30 : Int) = 1))
                                   (post (false) w31)
                                   ((loopR (α := Bool × Int) (false, 0) w31 fun x32 w33 next34 =>
                                     (bsplit (decide ((x32.2 : Int) < ((a1.n : Nat) : Int)))
                                      ((0 ≤ (x32.2 : Int) ∧ (x32.2 : Int) < ((a1.n : Nat) : Int) ∧
                                        (onP a1.a fun p35 =>
                                        (∃ n36 : Int, (w33.cell? (p35.add ((x32.2 : Int).toNat * 2)) = some (.int .i64 n36)) ∧
                                        (c_txn_Manager_Read x10.1 x28.1 n36 1 w33 fun (x37 : SV × Int) w38 =>
                                        (bsplit (!decide ((x37.2 : Int) = 0))
                                        (post (false) w38)
                                        ((0 ≤ (x32.2 : Int) ∧ (x32.2 : Int) < ((a1.n : Nat) : Int) ∧
                                        (onP a1.a fun p39 =>
                                        (∃ s40 : SV, (w38.cell? ((p39.add ((x32.2 : Int).toNat * 2)).add 1) = some (.slice s40.a s40.n s40.c)) ∧
                                        (c_scarpalike_Bytes x37.1 s40 w38 fun (x41 : Bool) w42 =>
                                        (bsplit (!x41)
                                        (post (false) w42)
                                        (next34 (x32.1, (IntKind.i64.wrap (x32.2 + 1))) w42)))))))))))))
                                      ((c_scarpalike_Data 1 w33 fun (x43 : SV) w44 =>
                                        (withW (w44.alloc (.cells #[.int .i64 3, .slice x43.a x43.n x43.c] 33)) fun w45 =>
                                        (c_txn_Manager_Write x10.1 x28.1 (⟨(some (⟨w44.heap.size, 0, none⟩ : Addr)), 1, 1⟩) w45 fun (x46 : Int) w47 =>
                                        (bsplit (decide ((x46 : Int) = 0))
                                        ((c_txn_Manager_Commit x10.1 x28.1 w47 fun (x48 : Int) w49 =>
                                        (bsplit (decide ((x48 : Int) = 0))
                                        ((c_scarplaw23_awake  w49 fun (x50 : Bool) w51 =>
                                        post (x50) w51))
                                        (post (false) w49))))
                                        (post (false) w47))))))))))))))))))
                          ((c_txn_Manager_Begin x10.1 w25 fun (x52 : Int × Int) w53 =>
                            (bsplit (!decide ((x52.2 : Int) = 0))
                             (post (false) w53)
                             ((c_txn_Manager_Load x10.1 a1 w53 fun (x54 : Int) w55 =>
                               (bsplit (!decide ((x54 : Int) = 1))
                                (post (false) w55)
                                ((loopR (α := Bool × Int) (false, 0) w55 fun x56 w57 next58 =>
                                  (bsplit (decide ((x56.2 : Int) < ((a1.n : Nat) : Int)))
                                   ((0 ≤ (x56.2 : Int) ∧ (x56.2 : Int) < ((a1.n : Nat) : Int) ∧
                                     (onP a1.a fun p59 =>
                                      (∃ n60 : Int, (w57.cell? (p59.add ((x56.2 : Int).toNat * 2)) = some (.int .i64 n60)) ∧
                                       (c_txn_Manager_Read x10.1 x52.1 n60 1 w57 fun (x61 : SV × Int) w62 =>
                                        (bsplit (!decide ((x61.2 : Int) = 0))
                                        (post (false) w62)
                                        ((0 ≤ (x56.2 : Int) ∧ (x56.2 : Int) < ((a1.n : Nat) : Int) ∧
                                        (onP a1.a fun p63 =>
                                        (∃ s64 : SV, (w62.cell? ((p63.add ((x56.2 : Int).toNat * 2)).add 1) = some (.slice s64.a s64.n s64.c)) ∧
                                        (c_scarpalike_Bytes x61.1 s64 w62 fun (x65 : Bool) w66 =>
                                        (bsplit (!x65)
                                        (post (false) w66)
                                        (next58 (x56.1, (IntKind.i64.wrap (x56.2 + 1))) w66)))))))))))))
                                   ((c_scarpalike_Data 1 w57 fun (x67 : SV) w68 =>
                                     (withW (w68.alloc (.cells #[.int .i64 3, .slice x67.a x67.n x67.c] 33)) fun w69 =>
                                      (c_txn_Manager_Write x10.1 x52.1 (⟨(some (⟨w68.heap.size, 0, none⟩ : Addr)), 1, 1⟩) w69 fun (x70 : Int) w71 =>
                                       (bsplit (decide ((x70 : Int) = 0))
                                        ((c_txn_Manager_Commit x10.1 x52.1 w71 fun (x72 : Int) w73 =>
                                        (bsplit (decide ((x72 : Int) = 0))
                                        ((c_scarplaw23_awake  w73 fun (x74 : Bool) w75 =>
                                        post (x74) w75))
                                        (post (false) w73))))
                                        (post (false) w71)))))))))))))))))))))))))))))))))))))))
theorem scarplaw23_TxnLoads_vc (a0 : Int) (a1 : SV) (a2c0 : Int) (a2c1 : Int) (w : World) (post : RT [.cell (.bool)] → World → Prop) : vcF Tryz.prog tab Tryz.f10 [.cell (.bool)] [.int .i64 a0, .slice a1.a a1.n a1.c, .agg #[.int .i64 a2c0, .int .i64 a2c1]] w post = f_scarplaw23_TxnLoads a0 a1 a2c0 a2c1 w post := by kernel_rfl
theorem scarplaw23_TxnLoads_ok : okFn Tryz.f10 3 = true := by kernel_rfl
theorem scarplaw23_TxnLoads_go {w : World} {a0 : Int} {a1 : SV} {a2c0 : Int} {a2c1 : Int} {post : RT [.cell (.bool)] → World → Prop} (h : f_scarplaw23_TxnLoads a0 a1 a2c0 a2c1 w post) : c_scarplaw23_TxnLoads a0 a1 a2c0 a2c1 w post :=
    calls_of_vc tab_ok Tryz.func10 (rs := [.cell (.bool)]) (av := [.int .i64 a0, .slice a1.a a1.n a1.c, .agg #[.int .i64 a2c0, .int .i64 a2c1]]) scarplaw23_TxnLoads_ok (Eq.mpr (scarplaw23_TxnLoads_vc a0 a1 a2c0 a2c1 w post) h)
/-- scarp/scarplaw23.TxnSnaps; loop over (t6 : SV, t2 : Bool, t7 : Int); loop over (t2 : Bool, t13 : Int); loop over (t15 : Int); loop over (t18 : Int); loop over (t19 : Int) -/
def f_scarplaw23_TxnSnaps (a0 : SV) (w : World) (post : Bool → World → Prop) : Prop :=
  (c_scarplaw23_small a0 w fun (x1 : Bool) w2 =>
   (bsplit (!x1)
    ((c_scarplaw23_awake  w2 fun (x3 : Bool) w4 =>
      post (x3) w4))
    ((c_txn_New 20 0 w2 fun (x5 : (Option Addr) × Int) w6 =>
      (bsplit (!decide ((x5.2 : Int) = 0))
       (post (false) w6)
       ((bsplit ((x5.1).isNone)
         (post (false) w6)
         ((0 ≤ (20 : Int) ∧ (20 : Int) ≤ 20 ∧ ((24 : Nat) : Int) * 20 ≤ 2 ^ 48 ∧ (20 : Int) ≤ 2 ^ 48 ∧
           (withW (w6.alloc (.cells (zrow [.slice none 0 0] (20 : Int).toNat).toArray 30)) fun w7 =>
            (loopR (α := SV × Bool × Int) (⟨none, 0, 0⟩, false, 0) w7 fun x8 w9 next10 =>
             (bsplit (decide ((x8.2.2 : Int) < ((a0.n : Nat) : Int)))
              ((0 ≤ (x8.2.2 : Int) ∧ (x8.2.2 : Int) < ((a0.n : Nat) : Int) ∧
                (onP a0.a fun p11 =>
                 (∃ g12 : Int × Int × Int × Int × SV × Int, (w9.cell? (p11.add ((x8.2.2 : Int).toNat * 6)) = some (.int .i64 g12.1) ∧ w9.cell? ((p11.add ((x8.2.2 : Int).toNat * 6)).add 1) = some (.int .i64 g12.2.1) ∧ w9.cell? ((p11.add ((x8.2.2 : Int).toNat * 6)).add 2) = some (.int .i64 g12.2.2.1) ∧ w9.cell? ((p11.add ((x8.2.2 : Int).toNat * 6)).add 3) = some (.int .i64 g12.2.2.2.1) ∧ w9.cell? ((p11.add ((x8.2.2 : Int).toNat * 6)).add 4) = some (.slice g12.2.2.2.2.1.a g12.2.2.2.2.1.n g12.2.2.2.2.1.c) ∧ w9.cell? ((p11.add ((x8.2.2 : Int).toNat * 6)).add 5) = some (.int .i64 g12.2.2.2.2.2)) ∧
                  (withW (w9.alloc (.cells #[.int .i64 0, .int .i64 0, .int .i64 0, .int .i64 0, .slice none 0 0, .int .i64 0] 68)) fun w13 =>
                   ((((∃ u, w13.cell? (⟨w9.heap.size, 0, none⟩ : Addr) = some u) ∧ w13.frozen? (⟨w9.heap.size, 0, none⟩ : Addr) = false) ∧ ((∃ u, w13.cell? ((⟨w9.heap.size, 0, none⟩ : Addr).add 1) = some u) ∧ w13.frozen? ((⟨w9.heap.size, 0, none⟩ : Addr).add 1) = false) ∧ ((∃ u, w13.cell? ((⟨w9.heap.size, 0, none⟩ : Addr).add 2) = some u) ∧ w13.frozen? ((⟨w9.heap.size, 0, none⟩ : Addr).add 2) = false) ∧ ((∃ u, w13.cell? ((⟨w9.heap.size, 0, none⟩ : Addr).add 3) = some u) ∧ w13.frozen? ((⟨w9.heap.size, 0, none⟩ : Addr).add 3) = false) ∧ ((∃ u, w13.cell? ((⟨w9.heap.size, 0, none⟩ : Addr).add 4) = some u) ∧ w13.frozen? ((⟨w9.heap.size, 0, none⟩ : Addr).add 4) = false) ∧ ((∃ u, w13.cell? ((⟨w9.heap.size, 0, none⟩ : Addr).add 5) = some u) ∧ w13.frozen? ((⟨w9.heap.size, 0, none⟩ : Addr).add 5) = false)) ∧ (true = true) ∧
                    (withW ((((((w13.setCell (⟨w9.heap.size, 0, none⟩ : Addr) (.int .i64 g12.1)).setCell ((⟨w9.heap.size, 0, none⟩ : Addr).add 1) (.int .i64 g12.2.1)).setCell ((⟨w9.heap.size, 0, none⟩ : Addr).add 2) (.int .i64 g12.2.2.1)).setCell ((⟨w9.heap.size, 0, none⟩ : Addr).add 3) (.int .i64 g12.2.2.2.1)).setCell ((⟨w9.heap.size, 0, none⟩ : Addr).add 4) (.slice g12.2.2.2.2.1.a g12.2.2.2.2.1.n g12.2.2.2.2.1.c)).setCell ((⟨w9.heap.size, 0, none⟩ : Addr).add 5) (.int .i64 g12.2.2.2.2.2)) fun w14 =>
                     (∃ n15 : Int, (w14.cell? (⟨w9.heap.size, 0, none⟩ : Addr) = some (.int .i64 n15)) ∧
                      (bsplit (decide ((n15 : Int) = 1))
                       ((c_txn_Manager_Begin x5.1 w14 fun (x16 : Int × Int) w17 =>
                         (bsplit (decide ((x16.2 : Int) = 0))
                          ((withW (w17.alloc (.cells #[] 30)) fun w18 =>
                            (appendR (⟨(some (⟨w17.heap.size, 0, none⟩ : Addr)), 0, 0⟩) (⟨(some (⟨w6.heap.size, 0, none⟩ : Addr)), ((20 : Int).toNat), ((20 : Int).toNat)⟩) 1 24 [.slice none 0 0] 30 w18 fun (s19 : SV) w20 =>
                             (withW (w20.alloc (.cells #[.slice s19.a s19.n s19.c] 65)) fun w21 =>
                              (appendR x8.1 (⟨(some (⟨w20.heap.size, 0, none⟩ : Addr)), 1, 1⟩) 1 24 [.slice none 0 0] 65 w21 fun (s22 : SV) w23 =>
                               (withI (IntKind.i64.wrap (x8.2.2 + 1)) fun i24 =>
                                next10 (⟨s22.a, s22.n, s22.c⟩, x8.2.1, i24) w23))))))
                          ((withI (IntKind.i64.wrap (x8.2.2 + 1)) fun i25 =>
                            next10 (⟨x8.1.a, x8.1.n, x8.1.c⟩, x8.2.1, i25) w17)))))
                       ((bsplit (decide ((n15 : Int) = 2))
                         ((∃ n26 : Int, (w14.cell? ((⟨w9.heap.size, 0, none⟩ : Addr).add 1) = some (.int .i64 n26)) ∧
                           (∃ g27 : Int × Int, (w14.cell? ((⟨w9.heap.size, 0, none⟩ : Addr).add 2) = some (.int .i64 g27.1) ∧ w14.cell? (((⟨w9.heap.size, 0, none⟩ : Addr).add 2).add 1) = some (.int .i64 g27.2)) ∧
                            (c_txn_Manager_Read x5.1 n26 g27.1 g27.2 w14 fun (x28 : SV × Int) w29 =>
                             (loopR (α := Bool × Int) (x8.2.1, 0) w29 fun x30 w31 next32 =>
                              (∃ n33 : Int, (w31.cell? (((⟨w9.heap.size, 0, none⟩ : Addr).add 2).add 1) = some (.int .i64 n33)) ∧
                               (bsplit (decide ((x30.2 : Int) < n33))
                                ((bsplit (decide ((x28.2 : Int) = 0))
                                  ((withW w31.drew fun w34 =>
                                    (∃ n35 : Int, (w34.cell? ((⟨w9.heap.size, 0, none⟩ : Addr).add 1) = some (.int .i64 n35)) ∧
                                     (0 ≤ ((IntKind.i64.wrap (n35 - 1)) : Int) ∧ ((IntKind.i64.wrap (n35 - 1)) : Int) < ((x8.1.n : Nat) : Int) ∧
                                      (onP x8.1.a fun p36 =>
                                       (∃ s37 : SV, (w34.cell? (p36.add (((IntKind.i64.wrap (n35 - 1)) : Int).toNat * 1)) = some (.slice s37.a s37.n s37.c)) ∧
                                        (∃ n38 : Int, (w34.cell? ((⟨w9.heap.size, 0, none⟩ : Addr).add 2) = some (.int .i64 n38)) ∧
                                        (0 ≤ ((IntKind.i64.wrap (n38 + x30.2)) : Int) ∧ ((IntKind.i64.wrap (n38 + x30.2)) : Int) < ((s37.n : Nat) : Int) ∧
                                        (onP s37.a fun p39 =>
                                        (∃ s40 : SV, (w34.cell? (p39.add (((IntKind.i64.wrap (n38 + x30.2)) : Int).toNat * 1)) = some (.slice s40.a s40.n s40.c)) ∧
                                        (bsplit (decide ((((s40.n : Nat) : Int) : Int) = 0))
                                        ((0 ≤ (40 : Int) ∧ (40 : Int) ≤ 40 ∧ ((1 : Nat) : Int) * 40 ≤ 2 ^ 48 ∧ (40 : Int) ≤ 2 ^ 48 ∧
                                        (withW (w34.alloc (.cells (zrow [.int .u8 0] (40 : Int).toNat).toArray 5)) fun w41 =>
                                        (0 ≤ ((IntKind.i64.wrap (40 * x30.2)) : Int) ∧ ((IntKind.i64.wrap (40 * x30.2)) : Int) ≤ ((IntKind.i64.wrap ((IntKind.i64.wrap (40 * x30.2)) + 40)) : Int) ∧ ((IntKind.i64.wrap ((IntKind.i64.wrap (40 * x30.2)) + 40)) : Int) ≤ ((x28.1.c : Nat) : Int) ∧
                                        (c_scarpalike_Bytes (⟨(sub? x28.1.a ((IntKind.i64.wrap (40 * x30.2)) : Int).toNat x28.1.c 1), (((IntKind.i64.wrap ((IntKind.i64.wrap (40 * x30.2)) + 40)) : Int).toNat - ((IntKind.i64.wrap (40 * x30.2)) : Int).toNat), (x28.1.c - ((IntKind.i64.wrap (40 * x30.2)) : Int).toNat)⟩) (⟨(some (⟨w34.heap.size, 0, none⟩ : Addr)), ((40 : Int).toNat), ((40 : Int).toNat)⟩) w41 fun (x42 : Bool) w43 =>
                                        (bsplit (!x42)
                                        (post (false) w43)
                                        (next32 (x30.1, (IntKind.i64.wrap (x30.2 + 1))) w43)))))))
                                        ((0 ≤ ((IntKind.i64.wrap (40 * x30.2)) : Int) ∧ ((IntKind.i64.wrap (40 * x30.2)) : Int) ≤ ((IntKind.i64.wrap ((IntKind.i64.wrap (40 * x30.2)) + 40)) : Int) ∧ ((IntKind.i64.wrap ((IntKind.i64.wrap (40 * x30.2)) + 40)) : Int) ≤ ((x28.1.c : Nat) : Int) ∧
                                        (c_scarpalike_Bytes (⟨(sub? x28.1.a ((IntKind.i64.wrap (40 * x30.2)) : Int).toNat x28.1.c 1), (((IntKind.i64.wrap ((IntKind.i64.wrap (40 * x30.2)) + 40)) : Int).toNat - ((IntKind.i64.wrap (40 * x30.2)) : Int).toNat), (x28.1.c - ((IntKind.i64.wrap (40 * x30.2)) : Int).toNat)⟩) s40 w34 fun (x44 : Bool) w45 =>
                                        (bsplit (!x44)
                                        (post (false) w45)
                                        (next32 (x30.1, (IntKind.i64.wrap (x30.2 + 1))) w45))))))))))))))))
                                  ((withI (IntKind.i64.wrap (x8.2.2 + 1)) fun i46 =>
                                    next10 (⟨x8.1.a, x8.1.n, x8.1.c⟩, x30.1, i46) w31))))
                                ((withI (IntKind.i64.wrap (x8.2.2 + 1)) fun i47 =>
                                  next10 (⟨x8.1.a, x8.1.n, x8.1.c⟩, x30.1, i47) w31)))))))))
                         ((bsplit (decide ((n15 : Int) = 3))
                           ((∃ n48 : Int, (w14.cell? ((⟨w9.heap.size, 0, none⟩ : Addr).add 1) = some (.int .i64 n48)) ∧
                             (∃ s49 : SV, (w14.cell? ((⟨w9.heap.size, 0, none⟩ : Addr).add 4) = some (.slice s49.a s49.n s49.c)) ∧
                              (c_txn_Manager_Write x5.1 n48 s49 w14 fun (x50 : Int) w51 =>
                               (bsplit (decide ((x50 : Int) = 0))
                                ((loopR (α := Int) (0) w51 fun x52 w53 next54 =>
                                  (∃ s55 : SV, (w53.cell? ((⟨w9.heap.size, 0, none⟩ : Addr).add 4) = some (.slice s55.a s55.n s55.c)) ∧
                                   (bsplit (decide ((x52 : Int) < ((s55.n : Nat) : Int)))
                                    ((withW w53.drew fun w57 =>
                                      (∃ S56 : World → Prop, S56 w57 ∧
                                       (∃ n58 : Int, ((∀ w59, S56 w59 → w59.cell? ((⟨w9.heap.size, 0, none⟩ : Addr).add 1) = some (.int .i64 n58))) ∧
                                        (0 ≤ ((IntKind.i64.wrap (n58 - 1)) : Int) ∧ ((IntKind.i64.wrap (n58 - 1)) : Int) < ((x8.1.n : Nat) : Int) ∧
                                        (onP x8.1.a fun p60 =>
                                        (∃ s61 : SV, ((∀ w62, S56 w62 → w62.cell? (p60.add (((IntKind.i64.wrap (n58 - 1)) : Int).toNat * 1)) = some (.slice s61.a s61.n s61.c))) ∧
                                        (∃ s63 : SV, ((∀ w64, S56 w64 → w64.cell? ((⟨w9.heap.size, 0, none⟩ : Addr).add 4) = some (.slice s63.a s63.n s63.c))) ∧
                                        (0 ≤ (x52 : Int) ∧ (x52 : Int) < ((s63.n : Nat) : Int) ∧
                                        (onP s63.a fun p65 =>
                                        (∃ n66 : Int, ((∀ w67, S56 w67 → w67.cell? (p65.add ((x52 : Int).toNat * 2)) = some (.int .i64 n66))) ∧
                                        (∃ s68 : SV, ((∀ w69, S56 w69 → w69.cell? ((⟨w9.heap.size, 0, none⟩ : Addr).add 4) = some (.slice s68.a s68.n s68.c))) ∧
                                        (0 ≤ (x52 : Int) ∧ (x52 : Int) < ((s68.n : Nat) : Int) ∧
                                        (onP s68.a fun p70 =>
                                        (∃ s71 : SV, ((∀ w72, S56 w72 → w72.cell? ((p70.add ((x52 : Int).toNat * 2)).add 1) = some (.slice s71.a s71.n s71.c))) ∧
                                        (0 ≤ (n66 : Int) ∧ (n66 : Int) < ((s61.n : Nat) : Int) ∧
                                        (onP s61.a fun p73 =>
                                        ((((∃ u, w57.cell? (p73.add ((n66 : Int).toNat * 1)) = some u) ∧ w57.frozen? (p73.add ((n66 : Int).toNat * 1)) = false)) ∧ (true = true) ∧
                                        (withW (w57.setCell (p73.add ((n66 : Int).toNat * 1)) (.slice s71.a s71.n s71.c)) fun w74 =>
                                        next54 ((IntKind.i64.wrap (x52 + 1))) w74)))))))))))))))))))
                                    ((withI (IntKind.i64.wrap (x8.2.2 + 1)) fun i75 =>
                                      next10 (⟨x8.1.a, x8.1.n, x8.1.c⟩, x8.2.1, i75) w53))))))
                                ((withI (IntKind.i64.wrap (x8.2.2 + 1)) fun i76 =>
                                  next10 (⟨x8.1.a, x8.1.n, x8.1.c⟩, x8.2.1, i76) w51)))))))
                           ((bsplit (decide ((n15 : Int) = 4))
                             ((∃ n77 : Int, (w14.cell? ((⟨w9.heap.size, 0, none⟩ : Addr).add 1) = some (.int .i64 n77)) ∧
                               (c_txn_Manager_Commit x5.1 n77 w14 fun (x78 : Int) w79 =>
                                (withI (IntKind.i64.wrap (x8.2.2 + 1)) fun i80 =>
                                 next10 (⟨x8.1.a, x8.1.n, x8.1.c⟩, x8.2.1, i80) w79))))
                             ((bsplit (decide ((n15 : Int) = 5))
                               ((∃ n81 : Int, (w14.cell? ((⟨w9.heap.size, 0, none⟩ : Addr).add 1) = some (.int .i64 n81)) ∧
                                 (c_txn_Manager_Abort x5.1 n81 w14 fun (x82 : Int) w83 =>
                                  (withI (IntKind.i64.wrap (x8.2.2 + 1)) fun i84 =>
                                   next10 (⟨x8.1.a, x8.1.n, x8.1.c⟩, x8.2.1, i84) w83))))
                               ((bsplit (decide ((n15 : Int) = 6))
                                 ((c_txn_Manager_Batch x5.1 w14 fun (x85 : (Int × SV) × Int) w86 =>
                                   (withW (w86.alloc (.cells #[.int .i64 0, .slice none 0 0] 42)) fun w87 =>
                                    ((((∃ u, w87.cell? (⟨w86.heap.size, 0, none⟩ : Addr) = some u) ∧ w87.frozen? (⟨w86.heap.size, 0, none⟩ : Addr) = false) ∧ ((∃ u, w87.cell? ((⟨w86.heap.size, 0, none⟩ : Addr).add 1) = some u) ∧ w87.frozen? ((⟨w86.heap.size, 0, none⟩ : Addr).add 1) = false)) ∧ (true = true) ∧
                                     (withW ((w87.setCell (⟨w86.heap.size, 0, none⟩ : Addr) (.int .i64 x85.1.1)).setCell ((⟨w86.heap.size, 0, none⟩ : Addr).add 1) (.slice x85.1.2.a x85.1.2.n x85.1.2.c)) fun w88 =>
                                      (bsplit (decide ((x85.2 : Int) = 0))
                                       ((c_txn_Manager_Done x5.1 0 w88 fun (x89 : Int) w90 =>
                                        (bsplit (decide ((x89 : Int) = 0))
                                        ((loopR (α := Int) (0) w90 fun x91 w92 next93 =>
                                        (∃ s94 : SV, (w92.cell? ((⟨w86.heap.size, 0, none⟩ : Addr).add 1) = some (.slice s94.a s94.n s94.c)) ∧
                                        (bsplit (decide ((x91 : Int) < ((s94.n : Nat) : Int)))
                                        ((loopR (α := Int) (0) w92 fun x95 w96 next97 =>
                                        (∃ s98 : SV, (w96.cell? ((⟨w86.heap.size, 0, none⟩ : Addr).add 1) = some (.slice s98.a s98.n s98.c)) ∧
                                        (0 ≤ (x91 : Int) ∧ (x91 : Int) < ((s98.n : Nat) : Int) ∧
                                        (onP s98.a fun p99 =>
                                        (∃ s100 : SV, (w96.cell? ((p99.add ((x91 : Int).toNat * 2)).add 1) = some (.slice s100.a s100.n s100.c)) ∧
                                        (bsplit (decide ((x95 : Int) < ((s100.n : Nat) : Int)))
                                        ((withW w96.drew fun w102 =>
                                        (∃ S101 : World → Prop, S101 w102 ∧
                                        (∃ s103 : SV, ((∀ w104, S101 w104 → w104.cell? ((⟨w86.heap.size, 0, none⟩ : Addr).add 1) = some (.slice s103.a s103.n s103.c))) ∧
                                        (0 ≤ (x91 : Int) ∧ (x91 : Int) < ((s103.n : Nat) : Int) ∧
                                        (onP s103.a fun p105 =>
                                        (∃ s106 : SV, ((∀ w107, S101 w107 → w107.cell? ((p105.add ((x91 : Int).toNat * 2)).add 1) = some (.slice s106.a s106.n s106.c))) ∧
                                        (0 ≤ (x95 : Int) ∧ (x95 : Int) < ((s106.n : Nat) : Int) ∧
                                        (onP s106.a fun p108 =>
                                        (∃ n109 : Int, ((∀ w110, S101 w110 → w110.cell? (p108.add ((x95 : Int).toNat * 2)) = some (.int .i64 n109))) ∧
                                        (∃ s111 : SV, ((∀ w112, S101 w112 → w112.cell? ((⟨w86.heap.size, 0, none⟩ : Addr).add 1) = some (.slice s111.a s111.n s111.c))) ∧
                                        (0 ≤ (x91 : Int) ∧ (x91 : Int) < ((s111.n : Nat) : Int) ∧
                                        (onP s111.a fun p113 =>
                                        (∃ s114 : SV, ((∀ w115, S101 w115 → w115.cell? ((p113.add ((x91 : Int).toNat * 2)).add 1) = some (.slice s114.a s114.n s114.c))) ∧
                                        (0 ≤ (x95 : Int) ∧ (x95 : Int) < ((s114.n : Nat) : Int) ∧
                                        (onP s114.a fun p116 =>
                                        (∃ s117 : SV, ((∀ w118, S101 w118 → w118.cell? ((p116.add ((x95 : Int).toNat * 2)).add 1) = some (.slice s117.a s117.n s117.c))) ∧
                                        (0 ≤ (n109 : Int) ∧ (n109 : Int) < ((((20 : Int).toNat) : Nat) : Int) ∧
                                        ((((∃ u, w102.cell? ((⟨w6.heap.size, 0, none⟩ : Addr).add ((n109 : Int).toNat * 1)) = some u) ∧ w102.frozen? ((⟨w6.heap.size, 0, none⟩ : Addr).add ((n109 : Int).toNat * 1)) = false)) ∧ (true = true) ∧
                                        (withW (w102.setCell ((⟨w6.heap.size, 0, none⟩ : Addr).add ((n109 : Int).toNat * 1)) (.slice s117.a s117.n s117.c)) fun w119 =>
                                        next97 ((IntKind.i64.wrap (x95 + 1))) w119))))))))))))))))))))
                                        (next93 ((IntKind.i64.wrap (x91 + 1))) w96))))))))
                                        ((withI (IntKind.i64.wrap (x8.2.2 + 1)) fun i120 =>
                                        next10 (⟨x8.1.a, x8.1.n, x8.1.c⟩, x8.2.1, i120) w92))))))
                                        ((withI (IntKind.i64.wrap (x8.2.2 + 1)) fun i121 =>
                                        next10 (⟨x8.1.a, x8.1.n, x8.1.c⟩, x8.2.1, i121) w90)))))
                                       ((withI (IntKind.i64.wrap (x8.2.2 + 1)) fun i122 =>
                                        next10 (⟨x8.1.a, x8.1.n, x8.1.c⟩, x8.2.1, i122) w88))))))))
                                 ((bsplit (decide ((n15 : Int) = 9))
                                   ((c_txn_Manager_Prune x5.1 w14 fun (x123 : Int) w124 =>
                                     (withI (IntKind.i64.wrap (x8.2.2 + 1)) fun i125 =>
                                      next10 (⟨x8.1.a, x8.1.n, x8.1.c⟩, x8.2.1, i125) w124)))
                                   ((withI (IntKind.i64.wrap (x8.2.2 + 1)) fun i126 =>
                                     next10 (⟨x8.1.a, x8.1.n, x8.1.c⟩, x8.2.1, i126) w14)))))))))))))))))))))))
              ((c_scarplaw23_awake  w9 fun (x127 : Bool) w128 =>
                post (x127) w128))))))))))))))
theorem scarplaw23_TxnSnaps_vc (a0 : SV) (w : World) (post : RT [.cell (.bool)] → World → Prop) : vcF Tryz.prog tab Tryz.f11 [.cell (.bool)] [.slice a0.a a0.n a0.c] w post = f_scarplaw23_TxnSnaps a0 w post := by kernel_rfl
theorem scarplaw23_TxnSnaps_ok : okFn Tryz.f11 1 = true := by kernel_rfl
theorem scarplaw23_TxnSnaps_go {w : World} {a0 : SV} {post : RT [.cell (.bool)] → World → Prop} (h : f_scarplaw23_TxnSnaps a0 w post) : c_scarplaw23_TxnSnaps a0 w post :=
    calls_of_vc tab_ok Tryz.func11 (rs := [.cell (.bool)]) (av := [.slice a0.a a0.n a0.c]) scarplaw23_TxnSnaps_ok (Eq.mpr (scarplaw23_TxnSnaps_vc a0 w post) h)
/-- scarp/scarplaw23.TxnReaders; loop over (t9 : Int); loop over (t14 : Int); loop over (t15 : Int) -/
def f_scarplaw23_TxnReaders (a0 : SV) (a1c0 : Int) (a1c1 : Int) (w : World) (post : Bool → World → Prop) : Prop :=
  (withW (w.alloc (.cells #[.int .i64 a1c0, .int .i64 a1c1] 56)) fun w1 =>
   (c_scarplaw23_small a0 w1 fun (x2 : Bool) w3 =>
    (bsplit (!x2)
     ((c_scarplaw23_awake  w3 fun (x4 : Bool) w5 =>
       post (x4) w5))
     ((c_txn_New 20 0 w3 fun (x6 : (Option Addr) × Int) w7 =>
       (bsplit (!decide ((x6.2 : Int) = 0))
        (post (false) w7)
        ((bsplit ((x6.1).isNone)
          (post (false) w7)
          ((c_txn_Manager_Begin x6.1 w7 fun (x8 : Int × Int) w9 =>
            (bsplit (!decide ((x8.2 : Int) = 0))
             (post (false) w9)
             ((loopR (α := Int) (0) w9 fun x10 w11 next12 =>
               (bsplit (decide ((x10 : Int) < ((a0.n : Nat) : Int)))
                ((0 ≤ (x10 : Int) ∧ (x10 : Int) < ((a0.n : Nat) : Int) ∧
                  (onP a0.a fun p13 =>
                   (∃ g14 : Int × Int × Int × Int × SV × Int, (w11.cell? (p13.add ((x10 : Int).toNat * 6)) = some (.int .i64 g14.1) ∧ w11.cell? ((p13.add ((x10 : Int).toNat * 6)).add 1) = some (.int .i64 g14.2.1) ∧ w11.cell? ((p13.add ((x10 : Int).toNat * 6)).add 2) = some (.int .i64 g14.2.2.1) ∧ w11.cell? ((p13.add ((x10 : Int).toNat * 6)).add 3) = some (.int .i64 g14.2.2.2.1) ∧ w11.cell? ((p13.add ((x10 : Int).toNat * 6)).add 4) = some (.slice g14.2.2.2.2.1.a g14.2.2.2.2.1.n g14.2.2.2.2.1.c) ∧ w11.cell? ((p13.add ((x10 : Int).toNat * 6)).add 5) = some (.int .i64 g14.2.2.2.2.2)) ∧
                    (withW (w11.alloc (.cells #[.int .i64 0, .int .i64 0, .int .i64 0, .int .i64 0, .slice none 0 0, .int .i64 0] 68)) fun w15 =>
                     ((((∃ u, w15.cell? (⟨w11.heap.size, 0, none⟩ : Addr) = some u) ∧ w15.frozen? (⟨w11.heap.size, 0, none⟩ : Addr) = false) ∧ ((∃ u, w15.cell? ((⟨w11.heap.size, 0, none⟩ : Addr).add 1) = some u) ∧ w15.frozen? ((⟨w11.heap.size, 0, none⟩ : Addr).add 1) = false) ∧ ((∃ u, w15.cell? ((⟨w11.heap.size, 0, none⟩ : Addr).add 2) = some u) ∧ w15.frozen? ((⟨w11.heap.size, 0, none⟩ : Addr).add 2) = false) ∧ ((∃ u, w15.cell? ((⟨w11.heap.size, 0, none⟩ : Addr).add 3) = some u) ∧ w15.frozen? ((⟨w11.heap.size, 0, none⟩ : Addr).add 3) = false) ∧ ((∃ u, w15.cell? ((⟨w11.heap.size, 0, none⟩ : Addr).add 4) = some u) ∧ w15.frozen? ((⟨w11.heap.size, 0, none⟩ : Addr).add 4) = false) ∧ ((∃ u, w15.cell? ((⟨w11.heap.size, 0, none⟩ : Addr).add 5) = some u) ∧ w15.frozen? ((⟨w11.heap.size, 0, none⟩ : Addr).add 5) = false)) ∧ (true = true) ∧
                      (withW ((((((w15.setCell (⟨w11.heap.size, 0, none⟩ : Addr) (.int .i64 g14.1)).setCell ((⟨w11.heap.size, 0, none⟩ : Addr).add 1) (.int .i64 g14.2.1)).setCell ((⟨w11.heap.size, 0, none⟩ : Addr).add 2) (.int .i64 g14.2.2.1)).setCell ((⟨w11.heap.size, 0, none⟩ : Addr).add 3) (.int .i64 g14.2.2.2.1)).setCell ((⟨w11.heap.size, 0, none⟩ : Addr).add 4) (.slice g14.2.2.2.2.1.a g14.2.2.2.2.1.n g14.2.2.2.2.1.c)).setCell ((⟨w11.heap.size, 0, none⟩ : Addr).add 5) (.int .i64 g14.2.2.2.2.2)) fun w16 =>
                       (∃ n17 : Int, (w16.cell? ((⟨w11.heap.size, 0, none⟩ : Addr).add 1) = some (.int .i64 n17)) ∧
                        (bsplit (decide ((n17 : Int) = x8.1))
                         (((((∃ u, w16.cell? ((⟨w11.heap.size, 0, none⟩ : Addr).add 1) = some u) ∧ w16.frozen? ((⟨w11.heap.size, 0, none⟩ : Addr).add 1) = false)) ∧ (true = true) ∧
                           (withW (w16.setCell ((⟨w11.heap.size, 0, none⟩ : Addr).add 1) (.int .i64 0)) fun w18 =>
                            (∃ g19 : Int × Int, (w18.cell? (⟨w.heap.size, 0, none⟩ : Addr) = some (.int .i64 g19.1) ∧ w18.cell? ((⟨w.heap.size, 0, none⟩ : Addr).add 1) = some (.int .i64 g19.2)) ∧
                             (c_txn_Manager_Read x6.1 x8.1 g19.1 g19.2 w18 fun (x20 : SV × Int) w21 =>
                              (∃ n22 : Int, (w21.cell? (⟨w11.heap.size, 0, none⟩ : Addr) = some (.int .i64 n22)) ∧
                               (bsplit (decide ((n22 : Int) = 1))
                                ((c_txn_Manager_Begin x6.1 w21 fun (x23 : Int × Int) w24 =>
                                  next12 ((IntKind.i64.wrap (x10 + 1))) w24))
                                ((bsplit (decide ((n22 : Int) = 2))
                                  ((∃ n25 : Int, (w21.cell? ((⟨w11.heap.size, 0, none⟩ : Addr).add 1) = some (.int .i64 n25)) ∧
                                    (∃ g26 : Int × Int, (w21.cell? ((⟨w11.heap.size, 0, none⟩ : Addr).add 2) = some (.int .i64 g26.1) ∧ w21.cell? (((⟨w11.heap.size, 0, none⟩ : Addr).add 2).add 1) = some (.int .i64 g26.2)) ∧
                                     (c_txn_Manager_Read x6.1 n25 g26.1 g26.2 w21 fun (x27 : SV × Int) w28 =>
                                      next12 ((IntKind.i64.wrap (x10 + 1))) w28))))
                                  ((bsplit (decide ((n22 : Int) = 3))
                                    ((∃ n29 : Int, (w21.cell? ((⟨w11.heap.size, 0, none⟩ : Addr).add 1) = some (.int .i64 n29)) ∧
                                      (∃ s30 : SV, (w21.cell? ((⟨w11.heap.size, 0, none⟩ : Addr).add 4) = some (.slice s30.a s30.n s30.c)) ∧
                                       (c_txn_Manager_Write x6.1 n29 s30 w21 fun (x31 : Int) w32 =>
                                        next12 ((IntKind.i64.wrap (x10 + 1))) w32))))
                                    ((bsplit (decide ((n22 : Int) = 4))
                                      ((∃ n33 : Int, (w21.cell? ((⟨w11.heap.size, 0, none⟩ : Addr).add 1) = some (.int .i64 n33)) ∧
                                        (c_txn_Manager_Commit x6.1 n33 w21 fun (x34 : Int) w35 =>
                                        next12 ((IntKind.i64.wrap (x10 + 1))) w35)))
                                      ((bsplit (decide ((n22 : Int) = 5))
                                        ((∃ n36 : Int, (w21.cell? ((⟨w11.heap.size, 0, none⟩ : Addr).add 1) = some (.int .i64 n36)) ∧
                                        (c_txn_Manager_Abort x6.1 n36 w21 fun (x37 : Int) w38 =>
                                        next12 ((IntKind.i64.wrap (x10 + 1))) w38)))
                                        ((bsplit (decide ((n22 : Int) = 6))
                                        ((c_txn_Manager_Batch x6.1 w21 fun (x39 : (Int × SV) × Int) w40 =>
                                        (c_txn_Manager_Done x6.1 0 w40 fun (x41 : Int) w42 =>
                                        next12 ((IntKind.i64.wrap (x10 + 1))) w42)))
                                        ((bsplit (decide ((n22 : Int) = 8))
                                        ((∃ n43 : Int, (w21.cell? ((⟨w11.heap.size, 0, none⟩ : Addr).add 5) = some (.int .i64 n43)) ∧
                                        ((true = true) ∧ (2 : Int) ≠ 0 ∧
                                        (c_txn_Manager_ReadOnly x6.1 (!decide ((((n43 : Int).tmod 2) : Int) = 0)) w21 fun (x44 : Unit) w45 =>
                                        next12 ((IntKind.i64.wrap (x10 + 1))) w45))))
                                        ((bsplit (decide ((n22 : Int) = 9))
                                        ((c_txn_Manager_Prune x6.1 w21 fun (x46 : Int) w47 =>
                                        next12 ((IntKind.i64.wrap (x10 + 1))) w47))
                                        (next12 ((IntKind.i64.wrap (x10 + 1))) w21))))))))))))))))))))))
                         ((∃ g48 : Int × Int, (w16.cell? (⟨w.heap.size, 0, none⟩ : Addr) = some (.int .i64 g48.1) ∧ w16.cell? ((⟨w.heap.size, 0, none⟩ : Addr).add 1) = some (.int .i64 g48.2)) ∧
                           (c_txn_Manager_Read x6.1 x8.1 g48.1 g48.2 w16 fun (x49 : SV × Int) w50 =>
                            (∃ n51 : Int, (w50.cell? (⟨w11.heap.size, 0, none⟩ : Addr) = some (.int .i64 n51)) ∧
                             (bsplit (decide ((n51 : Int) = 1))
                              ((c_txn_Manager_Begin x6.1 w50 fun (x52 : Int × Int) w53 =>
                                next12 ((IntKind.i64.wrap (x10 + 1))) w53))
                              ((bsplit (decide ((n51 : Int) = 2))
                                ((∃ n54 : Int, (w50.cell? ((⟨w11.heap.size, 0, none⟩ : Addr).add 1) = some (.int .i64 n54)) ∧
                                  (∃ g55 : Int × Int, (w50.cell? ((⟨w11.heap.size, 0, none⟩ : Addr).add 2) = some (.int .i64 g55.1) ∧ w50.cell? (((⟨w11.heap.size, 0, none⟩ : Addr).add 2).add 1) = some (.int .i64 g55.2)) ∧
                                   (c_txn_Manager_Read x6.1 n54 g55.1 g55.2 w50 fun (x56 : SV × Int) w57 =>
                                    next12 ((IntKind.i64.wrap (x10 + 1))) w57))))
                                ((bsplit (decide ((n51 : Int) = 3))
                                  ((∃ n58 : Int, (w50.cell? ((⟨w11.heap.size, 0, none⟩ : Addr).add 1) = some (.int .i64 n58)) ∧
                                    (∃ s59 : SV, (w50.cell? ((⟨w11.heap.size, 0, none⟩ : Addr).add 4) = some (.slice s59.a s59.n s59.c)) ∧
                                     (c_txn_Manager_Write x6.1 n58 s59 w50 fun (x60 : Int) w61 =>
                                      next12 ((IntKind.i64.wrap (x10 + 1))) w61))))
                                  ((bsplit (decide ((n51 : Int) = 4))
                                    ((∃ n62 : Int, (w50.cell? ((⟨w11.heap.size, 0, none⟩ : Addr).add 1) = some (.int .i64 n62)) ∧
                                      (c_txn_Manager_Commit x6.1 n62 w50 fun (x63 : Int) w64 =>
                                       next12 ((IntKind.i64.wrap (x10 + 1))) w64)))
                                    ((bsplit (decide ((n51 : Int) = 5))
                                      ((∃ n65 : Int, (w50.cell? ((⟨w11.heap.size, 0, none⟩ : Addr).add 1) = some (.int .i64 n65)) ∧
                                        (c_txn_Manager_Abort x6.1 n65 w50 fun (x66 : Int) w67 =>
                                        next12 ((IntKind.i64.wrap (x10 + 1))) w67)))
                                      ((bsplit (decide ((n51 : Int) = 6))
                                        ((c_txn_Manager_Batch x6.1 w50 fun (x68 : (Int × SV) × Int) w69 =>
                                        (c_txn_Manager_Done x6.1 0 w69 fun (x70 : Int) w71 =>
                                        next12 ((IntKind.i64.wrap (x10 + 1))) w71)))
                                        ((bsplit (decide ((n51 : Int) = 8))
                                        ((∃ n72 : Int, (w50.cell? ((⟨w11.heap.size, 0, none⟩ : Addr).add 5) = some (.int .i64 n72)) ∧
                                        ((true = true) ∧ (2 : Int) ≠ 0 ∧
                                        (c_txn_Manager_ReadOnly x6.1 (!decide ((((n72 : Int).tmod 2) : Int) = 0)) w50 fun (x73 : Unit) w74 =>
                                        next12 ((IntKind.i64.wrap (x10 + 1))) w74))))
                                        ((bsplit (decide ((n51 : Int) = 9))
                                        ((c_txn_Manager_Prune x6.1 w50 fun (x75 : Int) w76 =>
                                        next12 ((IntKind.i64.wrap (x10 + 1))) w76))
                                        (next12 ((IntKind.i64.wrap (x10 + 1))) w50)))))))))))))))))))))))))))))
                ((c_txn_Manager_Commit x6.1 x8.1 w11 fun (x77 : Int) w78 =>
                  (bsplit (!decide ((x77 : Int) = 0))
                   (post (false) w78)
                   ((c_txn_Manager_Result x6.1 x8.1 w78 fun (x79 : Int × Int × Int) w80 =>
                     (bsplit (!decide ((x79.1 : Int) = 3))
                      (post (false) w80)
                      ((bsplit (!decide ((x79.2.1 : Int) = 0))
                        (post (false) w80)
                        ((bsplit (!decide ((x79.2.2 : Int) = 0))
                          (post (false) w80)
                          ((c_txn_Manager_ReadOnly x6.1 false w80 fun (x81 : Unit) w82 =>
                            (loopR (α := Int) (0) w82 fun x83 w84 next85 =>
                             (bsplit (decide ((x83 : Int) < 40))
                              ((c_txn_Manager_Batch x6.1 w84 fun (x86 : (Int × SV) × Int) w87 =>
                                (c_txn_Manager_Done x6.1 0 w87 fun (x88 : Int) w89 =>
                                 next85 ((IntKind.i64.wrap (x83 + 1))) w89)))
                              ((loopR (α := Int) (1) w84 fun x90 w91 next92 =>
                                (bsplit (decide ((x90 : Int) ≤ 200))
                                 ((c_txn_Manager_Abort x6.1 x90 w91 fun (x93 : Int) w94 =>
                                   next92 ((IntKind.i64.wrap (x90 + 1))) w94))
                                 ((c_txn_Manager_Begin x6.1 w91 fun (x95 : Int × Int) w96 =>
                                   (bsplit (!decide ((x95.2 : Int) = 0))
                                    (post (false) w96)
                                    ((c_txn_Manager_Open x6.1 w96 fun (x97 : Int) w98 =>
                                      (bsplit (!decide ((x97 : Int) = 1))
                                       (post (false) w98)
                                       ((∃ g99 : Int × Int, (w98.cell? (⟨w.heap.size, 0, none⟩ : Addr) = some (.int .i64 g99.1) ∧ w98.cell? ((⟨w.heap.size, 0, none⟩ : Addr).add 1) = some (.int .i64 g99.2)) ∧
                                        (c_txn_Manager_Read x6.1 x95.1 g99.1 g99.2 w98 fun (x100 : SV × Int) w101 =>
                                        (c_scarpalike_Data 9 w101 fun (x102 : SV) w103 =>
                                        (withW (w103.alloc (.cells #[.int .i64 3, .slice x102.a x102.n x102.c] 33)) fun w104 =>
                                        (c_txn_Manager_Write x6.1 x95.1 (⟨(some (⟨w103.heap.size, 0, none⟩ : Addr)), 1, 1⟩) w104 fun (x105 : Int) w106 =>
                                        (bsplit (decide ((x105 : Int) = 0))
                                        ((c_txn_Manager_Commit x6.1 x95.1 w106 fun (x107 : Int) w108 =>
                                        (bsplit (decide ((x107 : Int) = 0))
                                        ((c_scarplaw23_awake  w108 fun (x109 : Bool) w110 =>
                                        post (x109) w110))
                                        (post (false) w108))))
                                        (post (false) w106)))))))))))))))))))))))))))))))))))))))))))))
theorem scarplaw23_TxnReaders_vc (a0 : SV) (a1c0 : Int) (a1c1 : Int) (w : World) (post : RT [.cell (.bool)] → World → Prop) : vcF Tryz.prog tab Tryz.f13 [.cell (.bool)] [.slice a0.a a0.n a0.c, .agg #[.int .i64 a1c0, .int .i64 a1c1]] w post = f_scarplaw23_TxnReaders a0 a1c0 a1c1 w post := by kernel_rfl
theorem scarplaw23_TxnReaders_ok : okFn Tryz.f13 2 = true := by kernel_rfl
theorem scarplaw23_TxnReaders_go {w : World} {a0 : SV} {a1c0 : Int} {a1c1 : Int} {post : RT [.cell (.bool)] → World → Prop} (h : f_scarplaw23_TxnReaders a0 a1c0 a1c1 w post) : c_scarplaw23_TxnReaders a0 a1c0 a1c1 w post :=
    calls_of_vc tab_ok Tryz.func13 (rs := [.cell (.bool)]) (av := [.slice a0.a a0.n a0.c, .agg #[.int .i64 a1c0, .int .i64 a1c1]]) scarplaw23_TxnReaders_ok (Eq.mpr (scarplaw23_TxnReaders_vc a0 a1c0 a1c1 w post) h)
/-- scarp/scarplaw23.TxnPrunes; loop over (t4 : Bool, t9 : Int, t10 : Int); loop over (t11 : SV, t12 : Int); loop over (t4 : Bool, t18 : Int) -/
def f_scarplaw23_TxnPrunes (a0 : SV) (a1c0 : Int) (a1c1 : Int) (w : World) (post : Bool → World → Prop) : Prop :=
  (withW (w.alloc (.cells #[.int .i64 a1c0, .int .i64 a1c1] 56)) fun w1 =>
   (c_scarplaw23_small a0 w1 fun (x2 : Bool) w3 =>
    (bsplit (!x2)
     ((c_scarplaw23_awake  w3 fun (x4 : Bool) w5 =>
       post (x4) w5))
     ((c_txn_New 20 0 w3 fun (x6 : (Option Addr) × Int) w7 =>
       (c_scarpref23_New 20 0 w7 fun (x8 : (Option Addr) × Int) w9 =>
        (bsplit (!decide ((x6.2 : Int) = 0))
         (post (false) w9)
         ((bsplit ((x6.1).isNone)
           (post (false) w9)
           ((loopR (α := Bool × Int × Int) (false, 0, 0) w9 fun x10 w11 next12 =>
             (bsplit (decide ((x10.2.2 : Int) < ((a0.n : Nat) : Int)))
              ((0 ≤ (x10.2.2 : Int) ∧ (x10.2.2 : Int) < ((a0.n : Nat) : Int) ∧
                (onP a0.a fun p13 =>
                 (∃ g14 : Int × Int × Int × Int × SV × Int, (w11.cell? (p13.add ((x10.2.2 : Int).toNat * 6)) = some (.int .i64 g14.1) ∧ w11.cell? ((p13.add ((x10.2.2 : Int).toNat * 6)).add 1) = some (.int .i64 g14.2.1) ∧ w11.cell? ((p13.add ((x10.2.2 : Int).toNat * 6)).add 2) = some (.int .i64 g14.2.2.1) ∧ w11.cell? ((p13.add ((x10.2.2 : Int).toNat * 6)).add 3) = some (.int .i64 g14.2.2.2.1) ∧ w11.cell? ((p13.add ((x10.2.2 : Int).toNat * 6)).add 4) = some (.slice g14.2.2.2.2.1.a g14.2.2.2.2.1.n g14.2.2.2.2.1.c) ∧ w11.cell? ((p13.add ((x10.2.2 : Int).toNat * 6)).add 5) = some (.int .i64 g14.2.2.2.2.2)) ∧
                  (c_scarplaw23_does x6.1 x8.1 g14.1 g14.2.1 g14.2.2.1 g14.2.2.2.1 g14.2.2.2.2.1 g14.2.2.2.2.2 w11 fun (x15 : Bool) w16 =>
                   (bsplit (!x15)
                    (post (false) w16)
                    ((0 ≤ (x10.2.2 : Int) ∧ (x10.2.2 : Int) < ((a0.n : Nat) : Int) ∧
                      (onP a0.a fun p17 =>
                       (∃ n18 : Int, (w16.cell? (p17.add ((x10.2.2 : Int).toNat * 6)) = some (.int .i64 n18)) ∧
                        (bsplit (decide ((n18 : Int) = 1))
                         ((withI (IntKind.i64.wrap (x10.2.1 + 1)) fun i19 =>
                           (withI (IntKind.i64.wrap (x10.2.2 + 1)) fun i20 =>
                            next12 (x10.1, i19, i20) w16)))
                         ((withI (IntKind.i64.wrap (x10.2.2 + 1)) fun i21 =>
                           next12 (x10.1, x10.2.1, i21) w16)))))))))))))
              ((loopR (α := SV × Int) (⟨none, 0, 0⟩, 1) w11 fun x22 w23 next24 =>
                (bsplit (decide ((x22.2 : Int) ≤ x10.2.1))
                 ((∃ g25 : Int × Int, (w23.cell? (⟨w.heap.size, 0, none⟩ : Addr) = some (.int .i64 g25.1) ∧ w23.cell? ((⟨w.heap.size, 0, none⟩ : Addr).add 1) = some (.int .i64 g25.2)) ∧
                   (c_txn_Manager_Read x6.1 x22.2 g25.1 g25.2 w23 fun (x26 : SV × Int) w27 =>
                    (withW (w27.alloc (.cells #[.slice x26.1.a x26.1.n x26.1.c] 30)) fun w28 =>
                     (appendR x22.1 (⟨(some (⟨w27.heap.size, 0, none⟩ : Addr)), 1, 1⟩) 1 24 [.slice none 0 0] 30 w28 fun (s29 : SV) w30 =>
                      next24 (⟨s29.a, s29.n, s29.c⟩, (IntKind.i64.wrap (x22.2 + 1))) w30)))))
                 ((c_txn_Manager_Dump x6.1 w23 fun (x31 : SV) w32 =>
                   (c_txn_Manager_Versions x6.1 w32 fun (x33 : Int) w34 =>
                    (c_txn_Manager_Prune x6.1 w34 fun (x35 : Int) w36 =>
                     (loopR (α := Bool × Int) (x10.1, 1) w36 fun x37 w38 next39 =>
                      (bsplit (decide ((x37.2 : Int) ≤ x10.2.1))
                       ((∃ g40 : Int × Int, (w38.cell? (⟨w.heap.size, 0, none⟩ : Addr) = some (.int .i64 g40.1) ∧ w38.cell? ((⟨w.heap.size, 0, none⟩ : Addr).add 1) = some (.int .i64 g40.2)) ∧
                         (c_txn_Manager_Read x6.1 x37.2 g40.1 g40.2 w38 fun (x41 : SV × Int) w42 =>
                          (0 ≤ ((IntKind.i64.wrap (x37.2 - 1)) : Int) ∧ ((IntKind.i64.wrap (x37.2 - 1)) : Int) < ((x22.1.n : Nat) : Int) ∧
                           (onP x22.1.a fun p43 =>
                            (∃ s44 : SV, (w42.cell? (p43.add (((IntKind.i64.wrap (x37.2 - 1)) : Int).toNat * 1)) = some (.slice s44.a s44.n s44.c)) ∧
                             (c_scarpalike_Bytes x41.1 s44 w42 fun (x45 : Bool) w46 =>
                              (bsplit (!x45)
                               (post (false) w46)
                               (next39 (x37.1, (IntKind.i64.wrap (x37.2 + 1))) w46)))))))))
                       ((c_txn_Manager_Versions x6.1 w38 fun (x47 : Int) w48 =>
                         (bsplit (decide ((x47 : Int) = (IntKind.i64.wrap (x33 - x35))))
                          ((c_txn_Manager_Prune x6.1 w48 fun (x49 : Int) w50 =>
                            (bsplit (decide ((x49 : Int) = 0))
                             ((c_txn_Manager_Dump x6.1 w50 fun (x51 : SV) w52 =>
                               (c_scarpref11_SamePuts x51 x31 w52 fun (x53 : Bool) w54 =>
                                (bsplit x53
                                 ((c_scarplaw23_awake  w54 fun (x55 : Bool) w56 =>
                                   post (x55) w56))
                                 (post (false) w54)))))
                             (post (false) w50))))
                          (post (false) w48)))))))))))))))))))))))))
theorem scarplaw23_TxnPrunes_vc (a0 : SV) (a1c0 : Int) (a1c1 : Int) (w : World) (post : RT [.cell (.bool)] → World → Prop) : vcF Tryz.prog tab Tryz.f14 [.cell (.bool)] [.slice a0.a a0.n a0.c, .agg #[.int .i64 a1c0, .int .i64 a1c1]] w post = f_scarplaw23_TxnPrunes a0 a1c0 a1c1 w post := by kernel_rfl
theorem scarplaw23_TxnPrunes_ok : okFn Tryz.f14 2 = true := by kernel_rfl
theorem scarplaw23_TxnPrunes_go {w : World} {a0 : SV} {a1c0 : Int} {a1c1 : Int} {post : RT [.cell (.bool)] → World → Prop} (h : f_scarplaw23_TxnPrunes a0 a1c0 a1c1 w post) : c_scarplaw23_TxnPrunes a0 a1c0 a1c1 w post :=
    calls_of_vc tab_ok Tryz.func14 (rs := [.cell (.bool)]) (av := [.slice a0.a a0.n a0.c, .agg #[.int .i64 a1c0, .int .i64 a1c1]]) scarplaw23_TxnPrunes_ok (Eq.mpr (scarplaw23_TxnPrunes_vc a0 a1c0 a1c1 w post) h)
end Go.Proofs.YtbolgpjcmchfoaaGreat
