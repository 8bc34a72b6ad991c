/- Readable conditions of functions, each tied to its own code by the kernel. -/
import Derived.Test.YtbolgpjcmchfoaaGreatTab
namespace Go.Proofs.YtbolgpjcmchfoaaGreat
open Go Go.Vc
set_option linter.unusedVariables false
set_option maxRecDepth 100000
/-- scarp/scarplaw23.TxnKeeps -/
def f_scarplaw23_TxnKeeps (a0 : Int) (a1 : Int) (w : World) (post : Bool → World → Prop) : Prop :=
  (c_scarpalike_Round a0 19 w fun (x1 : Int) w2 =>
   (c_txn_New 20 0 w2 fun (x3 : (Option Addr) × Int) w4 =>
    (bsplit (!decide ((x3.2 : Int) = 0))
     (post (false) w4)
     ((bsplit ((x3.1).isNone)
       (post (false) w4)
       ((c_scarpalike_Data a1 w4 fun (x5 : SV) w6 =>
         (c_txn_Manager_Begin x3.1 w6 fun (x7 : Int × Int) w8 =>
          (c_scarpalike_Data a1 w8 fun (x9 : SV) w10 =>
           (withW (w10.alloc (.cells #[.int .i64 x1, .slice x9.a x9.n x9.c] 33)) fun w11 =>
            (bsplit (!decide ((x7.2 : Int) = 0))
             (post (false) w11)
             ((c_txn_Manager_Write x3.1 x7.1 (⟨(some (⟨w10.heap.size, 0, none⟩ : Addr)), 1, 1⟩) w11 fun (x12 : Int) w13 =>
               (bsplit (!decide ((x12 : Int) = 0))
                (post (false) w13)
                ((0 ≤ (0 : Int) ∧ (0 : Int) < ((x9.n : Nat) : Int) ∧
                  (onP x9.a fun p14 =>
                   (∃ n15 : Int, (w13.cell? (p14.add ((0 : Int).toNat * 1)) = some (.int .u8 n15)) ∧
                    (0 ≤ (0 : Int) ∧ (0 : Int) < ((x9.n : Nat) : Int) ∧
                     (onP x9.a fun p16 =>
                      ((((∃ u, w13.cell? (p16.add ((0 : Int).toNat * 1)) = some u) ∧ w13.frozen? (p16.add ((0 : Int).toNat * 1)) = false)) ∧ (true = true) ∧
                       (withW (w13.setCell (p16.add ((0 : Int).toNat * 1)) (.int .u8 (IntKind.u8.wrap (n15 + 1)))) fun w17 =>
                        (0 ≤ (0 : Int) ∧ (0 : Int) < ((1 : Nat) : Int) ∧
                         (∃ n18 : Int, (w17.cell? ((⟨w10.heap.size, 0, none⟩ : Addr).add ((0 : Int).toNat * 2)) = some (.int .i64 n18)) ∧
                          (0 ≤ (0 : Int) ∧ (0 : Int) < ((1 : Nat) : Int) ∧
                           ((((∃ u, w17.cell? ((⟨w10.heap.size, 0, none⟩ : Addr).add ((0 : Int).toNat * 2)) = some u) ∧ w17.frozen? ((⟨w10.heap.size, 0, none⟩ : Addr).add ((0 : Int).toNat * 2)) = false)) ∧ (true = true) ∧
                            (withW (w17.setCell ((⟨w10.heap.size, 0, none⟩ : Addr).add ((0 : Int).toNat * 2)) (.int .i64 (IntKind.i64.wrap (n18 + 1)))) fun w19 =>
                             (withW (w19.alloc (.cells #[.int .i64 0, .int .i64 0] 56)) fun w20 =>
                              ((((∃ u, w20.cell? (⟨w19.heap.size, 0, none⟩ : Addr) = some u) ∧ w20.frozen? (⟨w19.heap.size, 0, none⟩ : Addr) = false) ∧ ((∃ u, w20.cell? ((⟨w19.heap.size, 0, none⟩ : Addr).add 1) = some u) ∧ w20.frozen? ((⟨w19.heap.size, 0, none⟩ : Addr).add 1) = false)) ∧ (true = true) ∧
                               (withW ((w20.setCell (⟨w19.heap.size, 0, none⟩ : Addr) (.int .i64 x1)).setCell ((⟨w19.heap.size, 0, none⟩ : Addr).add 1) (.int .i64 1)) fun w21 =>
                                (∃ g22 : Int × Int, (w21.cell? (⟨w19.heap.size, 0, none⟩ : Addr) = some (.int .i64 g22.1) ∧ w21.cell? ((⟨w19.heap.size, 0, none⟩ : Addr).add 1) = some (.int .i64 g22.2)) ∧
                                 (c_txn_Manager_Read x3.1 x7.1 g22.1 g22.2 w21 fun (x23 : SV × Int) w24 =>
                                  (bsplit (!decide ((x23.2 : Int) = 0))
                                   (post (false) w24)
                                   ((c_scarpalike_Bytes x23.1 x5 w24 fun (x25 : Bool) w26 =>
                                     (bsplit (!x25)
                                      (post (false) w26)
                                      ((0 ≤ (1 : Int) ∧ (1 : Int) < ((x23.1.n : Nat) : Int) ∧
                                        (onP x23.1.a fun p27 =>
                                        (∃ n28 : Int, (w26.cell? (p27.add ((1 : Int).toNat * 1)) = some (.int .u8 n28)) ∧
                                        (0 ≤ (1 : Int) ∧ (1 : Int) < ((x23.1.n : Nat) : Int) ∧
                                        (onP x23.1.a fun p29 =>
                                        ((((∃ u, w26.cell? (p29.add ((1 : Int).toNat * 1)) = some u) ∧ w26.frozen? (p29.add ((1 : Int).toNat * 1)) = false)) ∧ (true = true) ∧
                                        (withW (w26.setCell (p29.add ((1 : Int).toNat * 1)) (.int .u8 (IntKind.u8.wrap (n28 + 1)))) fun w30 =>
                                        (c_txn_Manager_History x3.1 x7.1 w30 fun (x31 : (Int × Int × Int × Int × Int × SV × SV)) w32 =>
                                        (withW (w32.alloc (.cells #[.int .i64 0, .int .i64 0, .int .i64 0, .int .i64 0, .int .i64 0, .slice none 0 0, .slice none 0 0] 73)) fun w33 =>
                                        ((((∃ u, w33.cell? (⟨w32.heap.size, 0, none⟩ : Addr) = some u) ∧ w33.frozen? (⟨w32.heap.size, 0, none⟩ : Addr) = false) ∧ ((∃ u, w33.cell? ((⟨w32.heap.size, 0, none⟩ : Addr).add 1) = some u) ∧ w33.frozen? ((⟨w32.heap.size, 0, none⟩ : Addr).add 1) = false) ∧ ((∃ u, w33.cell? ((⟨w32.heap.size, 0, none⟩ : Addr).add 2) = some u) ∧ w33.frozen? ((⟨w32.heap.size, 0, none⟩ : Addr).add 2) = false) ∧ ((∃ u, w33.cell? ((⟨w32.heap.size, 0, none⟩ : Addr).add 3) = some u) ∧ w33.frozen? ((⟨w32.heap.size, 0, none⟩ : Addr).add 3) = false) ∧ ((∃ u, w33.cell? ((⟨w32.heap.size, 0, none⟩ : Addr).add 4) = some u) ∧ w33.frozen? ((⟨w32.heap.size, 0, none⟩ : Addr).add 4) = false) ∧ ((∃ u, w33.cell? ((⟨w32.heap.size, 0, none⟩ : Addr).add 5) = some u) ∧ w33.frozen? ((⟨w32.heap.size, 0, none⟩ : Addr).add 5) = false) ∧ ((∃ u, w33.cell? ((⟨w32.heap.size, 0, none⟩ : Addr).add 6) = some u) ∧ w33.frozen? ((⟨w32.heap.size, 0, none⟩ : Addr).add 6) = false)) ∧ (true = true) ∧
                                        (withW (((((((w33.setCell (⟨w32.heap.size, 0, none⟩ : Addr) (.int .i64 x31.1)).setCell ((⟨w32.heap.size, 0, none⟩ : Addr).add 1) (.int .i64 x31.2.1)).setCell ((⟨w32.heap.size, 0, none⟩ : Addr).add 2) (.int .i64 x31.2.2.1)).setCell ((⟨w32.heap.size, 0, none⟩ : Addr).add 3) (.int .i64 x31.2.2.2.1)).setCell ((⟨w32.heap.size, 0, none⟩ : Addr).add 4) (.int .i64 x31.2.2.2.2.1)).setCell ((⟨w32.heap.size, 0, none⟩ : Addr).add 5) (.slice x31.2.2.2.2.2.1.a x31.2.2.2.2.2.1.n x31.2.2.2.2.2.1.c)).setCell ((⟨w32.heap.size, 0, none⟩ : Addr).add 6) (.slice x31.2.2.2.2.2.2.a x31.2.2.2.2.2.2.n x31.2.2.2.2.2.2.c)) fun w34 =>
                                        (∃ s35 : SV, (w34.cell? ((⟨w32.heap.size, 0, none⟩ : Addr).add 5) = some (.slice s35.a s35.n s35.c)) ∧
                                        (bsplit (!decide ((((s35.n : Nat) : Int) : Int) = 1))
                                        (post (false) w34)
                                        ((∃ s36 : SV, (w34.cell? ((⟨w32.heap.size, 0, none⟩ : Addr).add 6) = some (.slice s36.a s36.n s36.c)) ∧
                                        (bsplit (!decide ((((s36.n : Nat) : Int) : Int) = 1))
                                        (post (false) w34)
                                        ((∃ s37 : SV, (w34.cell? ((⟨w32.heap.size, 0, none⟩ : Addr).add 5) = some (.slice s37.a s37.n s37.c)) ∧
                                        (0 ≤ (0 : Int) ∧ (0 : Int) < ((s37.n : Nat) : Int) ∧
                                        (onP s37.a fun p38 =>
                                        (∃ s39 : SV, (w34.cell? ((p38.add ((0 : Int).toNat * 3)).add 1) = some (.slice s39.a s39.n s39.c)) ∧
                                        (c_scarpalike_Bytes s39 x5 w34 fun (x40 : Bool) w41 =>
                                        (bsplit (!x40)
                                        (post (false) w41)
                                        ((∃ s42 : SV, (w41.cell? ((⟨w32.heap.size, 0, none⟩ : Addr).add 5) = some (.slice s42.a s42.n s42.c)) ∧
                                        (0 ≤ (0 : Int) ∧ (0 : Int) < ((s42.n : Nat) : Int) ∧
                                        (onP s42.a fun p43 =>
                                        (∃ s44 : SV, (w41.cell? ((p43.add ((0 : Int).toNat * 3)).add 1) = some (.slice s44.a s44.n s44.c)) ∧
                                        (0 ≤ (2 : Int) ∧ (2 : Int) < ((s44.n : Nat) : Int) ∧
                                        (onP s44.a fun p45 =>
                                        (∃ n46 : Int, (w41.cell? (p45.add ((2 : Int).toNat * 1)) = some (.int .u8 n46)) ∧
                                        (0 ≤ (2 : Int) ∧ (2 : Int) < ((s44.n : Nat) : Int) ∧
                                        (onP s44.a fun p47 =>
                                        ((((∃ u, w41.cell? (p47.add ((2 : Int).toNat * 1)) = some u) ∧ w41.frozen? (p47.add ((2 : Int).toNat * 1)) = false)) ∧ (true = true) ∧
                                        (withW (w41.setCell (p47.add ((2 : Int).toNat * 1)) (.int .u8 (IntKind.u8.wrap (n46 + 1)))) fun w48 =>
                                        (∃ s49 : SV, (w48.cell? ((⟨w32.heap.size, 0, none⟩ : Addr).add 6) = some (.slice s49.a s49.n s49.c)) ∧
                                        (0 ≤ (0 : Int) ∧ (0 : Int) < ((s49.n : Nat) : Int) ∧
                                        (onP s49.a fun p50 =>
                                        (∃ s51 : SV, (w48.cell? ((p50.add ((0 : Int).toNat * 2)).add 1) = some (.slice s51.a s51.n s51.c)) ∧
                                        (0 ≤ (3 : Int) ∧ (3 : Int) < ((s51.n : Nat) : Int) ∧
                                        (onP s51.a fun p52 =>
                                        (∃ n53 : Int, (w48.cell? (p52.add ((3 : Int).toNat * 1)) = some (.int .u8 n53)) ∧
                                        (0 ≤ (3 : Int) ∧ (3 : Int) < ((s51.n : Nat) : Int) ∧
                                        (onP s51.a fun p54 =>
                                        ((((∃ u, w48.cell? (p54.add ((3 : Int).toNat * 1)) = some u) ∧ w48.frozen? (p54.add ((3 : Int).toNat * 1)) = false)) ∧ (true = true) ∧
                                        (withW (w48.setCell (p54.add ((3 : Int).toNat * 1)) (.int .u8 (IntKind.u8.wrap (n53 + 1)))) fun w55 =>
                                        (c_txn_Manager_Commit x3.1 x7.1 w55 fun (x56 : Int) w57 =>
                                        (bsplit (!decide ((x56 : Int) = 0))
                                        (post (false) w57)
                                        ((c_txn_Manager_Batch x3.1 w57 fun (x58 : (Int × SV) × Int) w59 =>
                                        (withW (w59.alloc (.cells #[.int .i64 0, .slice none 0 0] 42)) fun w60 =>
                                        ((((∃ u, w60.cell? (⟨w59.heap.size, 0, none⟩ : Addr) = some u) ∧ w60.frozen? (⟨w59.heap.size, 0, none⟩ : Addr) = false) ∧ ((∃ u, w60.cell? ((⟨w59.heap.size, 0, none⟩ : Addr).add 1) = some u) ∧ w60.frozen? ((⟨w59.heap.size, 0, none⟩ : Addr).add 1) = false)) ∧ (true = true) ∧
                                        (withW ((w60.setCell (⟨w59.heap.size, 0, none⟩ : Addr) (.int .i64 x58.1.1)).setCell ((⟨w59.heap.size, 0, none⟩ : Addr).add 1) (.slice x58.1.2.a x58.1.2.n x58.1.2.c)) fun w61 =>
                                        (bsplit (!decide ((x58.2 : Int) = 0))
                                        (post (false) w61)
                                        ((∃ s62 : SV, (w61.cell? ((⟨w59.heap.size, 0, none⟩ : Addr).add 1) = some (.slice s62.a s62.n s62.c)) ∧
                                        (bsplit (!decide ((((s62.n : Nat) : Int) : Int) = 1))
                                        (post (false) w61)
                                        ((∃ s63 : SV, (w61.cell? ((⟨w59.heap.size, 0, none⟩ : Addr).add 1) = some (.slice s63.a s63.n s63.c)) ∧
                                        (0 ≤ (0 : Int) ∧ (0 : Int) < ((s63.n : Nat) : Int) ∧
                                        (onP s63.a fun p64 =>
                                        (∃ s65 : SV, (w61.cell? ((p64.add ((0 : Int).toNat * 2)).add 1) = some (.slice s65.a s65.n s65.c)) ∧
                                        (bsplit (!decide ((((s65.n : Nat) : Int) : Int) = 1))
                                        (post (false) w61)
                                        ((∃ s66 : SV, (w61.cell? ((⟨w59.heap.size, 0, none⟩ : Addr).add 1) = some (.slice s66.a s66.n s66.c)) ∧
                                        (0 ≤ (0 : Int) ∧ (0 : Int) < ((s66.n : Nat) : Int) ∧
                                        (onP s66.a fun p67 =>
                                        (∃ s68 : SV, (w61.cell? ((p67.add ((0 : Int).toNat * 2)).add 1) = some (.slice s68.a s68.n s68.c)) ∧
                                        (0 ≤ (0 : Int) ∧ (0 : Int) < ((s68.n : Nat) : Int) ∧
                                        (onP s68.a fun p69 =>
                                        (∃ s70 : SV, (w61.cell? ((p69.add ((0 : Int).toNat * 2)).add 1) = some (.slice s70.a s70.n s70.c)) ∧
                                        (c_scarpalike_Bytes s70 x5 w61 fun (x71 : Bool) w72 =>
                                        (bsplit (!x71)
                                        (post (false) w72)
                                        ((∃ s73 : SV, (w72.cell? ((⟨w59.heap.size, 0, none⟩ : Addr).add 1) = some (.slice s73.a s73.n s73.c)) ∧
                                        (0 ≤ (0 : Int) ∧ (0 : Int) < ((s73.n : Nat) : Int) ∧
                                        (onP s73.a fun p74 =>
                                        (∃ s75 : SV, (w72.cell? ((p74.add ((0 : Int).toNat * 2)).add 1) = some (.slice s75.a s75.n s75.c)) ∧
                                        (0 ≤ (0 : Int) ∧ (0 : Int) < ((s75.n : Nat) : Int) ∧
                                        (onP s75.a fun p76 =>
                                        (∃ s77 : SV, (w72.cell? ((p76.add ((0 : Int).toNat * 2)).add 1) = some (.slice s77.a s77.n s77.c)) ∧
                                        (0 ≤ (4 : Int) ∧ (4 : Int) < ((s77.n : Nat) : Int) ∧
                                        (onP s77.a fun p78 =>
                                        (∃ n79 : Int, (w72.cell? (p78.add ((4 : Int).toNat * 1)) = some (.int .u8 n79)) ∧
                                        (0 ≤ (4 : Int) ∧ (4 : Int) < ((s77.n : Nat) : Int) ∧
                                        (onP s77.a fun p80 =>
                                        ((((∃ u, w72.cell? (p80.add ((4 : Int).toNat * 1)) = some u) ∧ w72.frozen? (p80.add ((4 : Int).toNat * 1)) = false)) ∧ (true = true) ∧
                                        (withW (w72.setCell (p80.add ((4 : Int).toNat * 1)) (.int .u8 (IntKind.u8.wrap (n79 + 1)))) fun w81 =>
                                        (c_txn_Manager_Done x3.1 0 w81 fun (x82 : Int) w83 =>
                                        (bsplit (!decide ((x82 : Int) = 0))
                                        (post (false) w83)
                                        ((c_txn_Manager_Dump x3.1 w83 fun (x84 : SV) w85 =>
                                        (bsplit (!decide ((((x84.n : Nat) : Int) : Int) = 1))
                                        (post (false) w85)
                                        ((0 ≤ (0 : Int) ∧ (0 : Int) < ((x84.n : Nat) : Int) ∧
                                        (onP x84.a fun p86 =>
                                        (∃ n87 : Int, (w85.cell? (p86.add ((0 : Int).toNat * 2)) = some (.int .i64 n87)) ∧
                                        (bsplit (!decide ((n87 : Int) = x1))
                                        (post (false) w85)
                                        ((0 ≤ (0 : Int) ∧ (0 : Int) < ((x84.n : Nat) : Int) ∧
                                        (onP x84.a fun p88 =>
                                        (∃ s89 : SV, (w85.cell? ((p88.add ((0 : Int).toNat * 2)).add 1) = some (.slice s89.a s89.n s89.c)) ∧
                                        (c_scarpalike_Bytes s89 x5 w85 fun (x90 : Bool) w91 =>
                                        (bsplit (!x90)
                                        (post (false) w91)
                                        ((0 ≤ (0 : Int) ∧ (0 : Int) < ((x84.n : Nat) : Int) ∧
                                        (onP x84.a fun p92 =>
                                        (∃ s93 : SV, (w91.cell? ((p92.add ((0 : Int).toNat * 2)).add 1) = some (.slice s93.a s93.n s93.c)) ∧
                                        (0 ≤ (5 : Int) ∧ (5 : Int) < ((s93.n : Nat) : Int) ∧
                                        (onP s93.a fun p94 =>
                                        (∃ n95 : Int, (w91.cell? (p94.add ((5 : Int).toNat * 1)) = some (.int .u8 n95)) ∧
                                        (0 ≤ (5 : Int) ∧ (5 : Int) < ((s93.n : Nat) : Int) ∧
                                        (onP s93.a fun p96 =>
                                        ((((∃ u, w91.cell? (p96.add ((5 : Int).toNat * 1)) = some u) ∧ w91.frozen? (p96.add ((5 : Int).toNat * 1)) = false)) ∧ (true = true) ∧
                                        (withW (w91.setCell (p96.add ((5 : Int).toNat * 1)) (.int .u8 (IntKind.u8.wrap (n95 + 1)))) fun w97 =>
                                        (c_txn_Manager_Begin x3.1 w97 fun (x98 : Int × Int) w99 =>
                                        (∃ g100 : Int × Int, (w99.cell? (⟨w19.heap.size, 0, none⟩ : Addr) = some (.int .i64 g100.1) ∧ w99.cell? ((⟨w19.heap.size, 0, none⟩ : Addr).add 1) = some (.int .i64 g100.2)) ∧
                                        (c_txn_Manager_Read x3.1 x98.1 g100.1 g100.2 w99 fun (x101 : SV × Int) w102 =>
                                        (c_txn_Manager_History x3.1 x7.1 w102 fun (x103 : (Int × Int × Int × Int × Int × SV × SV)) w104 =>
                                        (withW (w104.alloc (.cells #[.int .i64 0, .int .i64 0, .int .i64 0, .int .i64 0, .int .i64 0, .slice none 0 0, .slice none 0 0] 73)) fun w105 =>
                                        ((((∃ u, w105.cell? (⟨w104.heap.size, 0, none⟩ : Addr) = some u) ∧ w105.frozen? (⟨w104.heap.size, 0, none⟩ : Addr) = false) ∧ ((∃ u, w105.cell? ((⟨w104.heap.size, 0, none⟩ : Addr).add 1) = some u) ∧ w105.frozen? ((⟨w104.heap.size, 0, none⟩ : Addr).add 1) = false) ∧ ((∃ u, w105.cell? ((⟨w104.heap.size, 0, none⟩ : Addr).add 2) = some u) ∧ w105.frozen? ((⟨w104.heap.size, 0, none⟩ : Addr).add 2) = false) ∧ ((∃ u, w105.cell? ((⟨w104.heap.size, 0, none⟩ : Addr).add 3) = some u) ∧ w105.frozen? ((⟨w104.heap.size, 0, none⟩ : Addr).add 3) = false) ∧ ((∃ u, w105.cell? ((⟨w104.heap.size, 0, none⟩ : Addr).add 4) = some u) ∧ w105.frozen? ((⟨w104.heap.size, 0, none⟩ : Addr).add 4) = false) ∧ ((∃ u, w105.cell? ((⟨w104.heap.size, 0, none⟩ : Addr).add 5) = some u) ∧ w105.frozen? ((⟨w104.heap.size, 0, none⟩ : Addr).add 5) = false) ∧ ((∃ u, w105.cell? ((⟨w104.heap.size, 0, none⟩ : Addr).add 6) = some u) ∧ w105.frozen? ((⟨w104.heap.size, 0, none⟩ : Addr).add 6) = false)) ∧ (true = true) ∧
                                        (withW (((((((w105.setCell (⟨w104.heap.size, 0, none⟩ : Addr) (.int .i64 x103.1)).setCell ((⟨w104.heap.size, 0, none⟩ : Addr).add 1) (.int .i64 x103.2.1)).setCell ((⟨w104.heap.size, 0, none⟩ : Addr).add 2) (.int .i64 x103.2.2.1)).setCell ((⟨w104.heap.size, 0, none⟩ : Addr).add 3) (.int .i64 x103.2.2.2.1)).setCell ((⟨w104.heap.size, 0, none⟩ : Addr).add 4) (.int .i64 x103.2.2.2.2.1)).setCell ((⟨w104.heap.size, 0, none⟩ : Addr).add 5) (.slice x103.2.2.2.2.2.1.a x103.2.2.2.2.2.1.n x103.2.2.2.2.2.1.c)).setCell ((⟨w104.heap.size, 0, none⟩ : Addr).add 6) (.slice x103.2.2.2.2.2.2.a x103.2.2.2.2.2.2.n x103.2.2.2.2.2.2.c)) fun w106 =>
                                        (bsplit (decide ((x98.2 : Int) = 0))
                                        ((bsplit (decide ((x101.2 : Int) = 0))
                                        ((c_scarpalike_Bytes x101.1 x5 w106 fun (x107 : Bool) w108 =>
                                        (bsplit x107
                                        ((∃ s109 : SV, (w108.cell? ((⟨w104.heap.size, 0, none⟩ : Addr).add 5) = some (.slice s109.a s109.n s109.c)) ∧
                                        (bsplit (decide ((((s109.n : Nat) : Int) : Int) = 1))
                                        ((∃ s110 : SV, (w108.cell? ((⟨w104.heap.size, 0, none⟩ : Addr).add 5) = some (.slice s110.a s110.n s110.c)) ∧
                                        (0 ≤ (0 : Int) ∧ (0 : Int) < ((s110.n : Nat) : Int) ∧
                                        (onP s110.a fun p111 =>
                                        (∃ s112 : SV, (w108.cell? ((p111.add ((0 : Int).toNat * 3)).add 1) = some (.slice s112.a s112.n s112.c)) ∧
                                        (c_scarpalike_Bytes s112 x5 w108 fun (x113 : Bool) w114 =>
                                        (bsplit x113
                                        ((∃ s115 : SV, (w114.cell? ((⟨w104.heap.size, 0, none⟩ : Addr).add 6) = some (.slice s115.a s115.n s115.c)) ∧
                                        (0 ≤ (0 : Int) ∧ (0 : Int) < ((s115.n : Nat) : Int) ∧
                                        (onP s115.a fun p116 =>
                                        (∃ s117 : SV, (w114.cell? ((p116.add ((0 : Int).toNat * 2)).add 1) = some (.slice s117.a s117.n s117.c)) ∧
                                        (c_scarpalike_Bytes s117 x5 w114 fun (x118 : Bool) w119 =>
                                        (bsplit x118
                                        ((c_scarplaw23_awake  w119 fun (x120 : Bool) w121 =>
                                        post (x120) w121))
                                        (post (false) w119))))))))
                                        (post (false) w114))))))))
                                        (post (false) w108))))
                                        (post (false) w108))))
                                        (post (false) w106)))
                                        (post (false) w106)))))))))))))))))))))))))))))))))))))))))))))))))))))))))))))))))))))))))))))))))))))))))))))))))))))))))))))))))))))))))))))))))))))))))))))))))))))))))))))))))
theorem scarplaw23_TxnKeeps_vc (a0 : Int) (a1 : Int) (w : World) (post : RT [.cell (.bool)] → World → Prop) : vcF Tryz.prog tab Tryz.f12 [.cell (.bool)] [.int .i64 a0, .int .i64 a1] w post = f_scarplaw23_TxnKeeps a0 a1 w post := by kernel_rfl
theorem scarplaw23_TxnKeeps_ok : okFn Tryz.f12 2 = true := by kernel_rfl
theorem scarplaw23_TxnKeeps_go {w : World} {a0 : Int} {a1 : Int} {post : RT [.cell (.bool)] → World → Prop} (h : f_scarplaw23_TxnKeeps a0 a1 w post) : c_scarplaw23_TxnKeeps a0 a1 w post :=
    calls_of_vc tab_ok Tryz.func12 (rs := [.cell (.bool)]) (av := [.int .i64 a0, .int .i64 a1]) scarplaw23_TxnKeeps_ok (Eq.mpr (scarplaw23_TxnKeeps_vc a0 a1 w post) h)
end Go.Proofs.YtbolgpjcmchfoaaGreat
