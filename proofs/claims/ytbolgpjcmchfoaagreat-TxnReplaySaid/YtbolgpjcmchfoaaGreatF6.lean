/- Readable conditions of functions, each tied to its own code by the kernel. -/
import Derived.Test.YtbolgpjcmchfoaaGreatTab
namespace Go.Proofs.YtbolgpjcmchfoaaGreat
open Go Go.Vc
set_option linter.unusedVariables false
/-- scarp/scarplaw23.does -/
def f_scarplaw23_does_p1 (w53 : World) (w52 : World) : Prop :=
 (((∃ u, w53.cell? (⟨w52.heap.size, 0, none⟩ : Addr) = some u) ∧ w53.frozen? (⟨w52.heap.size, 0, none⟩ : Addr) = false) ∧ ((∃ u, w53.cell? ((⟨w52.heap.size, 0, none⟩ : Addr).add 1) = some u) ∧ w53.frozen? ((⟨w52.heap.size, 0, none⟩ : Addr).add 1) = false))
def f_scarplaw23_does (a0 : Option Addr) (a1 : Option Addr) (a2c0 : Int) (a2c1 : Int) (a2c2 : Int) (a2c3 : Int) (a2c4 : SV) (a2c5 : Int) (w : World) (post : Bool → World → Prop) : Prop :=
 (withW (w.alloc (.cells #[.int .i64 a2c0, .int .i64 a2c1, .int .i64 a2c2, .int .i64 a2c3, .slice a2c4.a a2c4.n a2c4.c, .int .i64 a2c5] 68)) fun w1 =>
 (∃ n2 : Int, (w1.cell? (⟨w.heap.size, 0, none⟩ : Addr) = some (.int .i64 n2)) ∧
 (bsplit (decide ((n2 : Int) = 1))
 ((c_txn_Manager_Begin a0 w1 fun (x3 : Int × Int) w4 =>
 (c_scarpref23_Manager_Begin a1 w4 fun (x5 : Int × Int) w6 =>
 (bsplit (decide ((x3.1 : Int) = x5.1))
 (post ((decide ((x3.2 : Int) = x5.2))) w6)
 (post (false) w6)))))
 ((bsplit (decide ((n2 : Int) = 2))
 ((∃ n7 : Int, (w1.cell? ((⟨w.heap.size, 0, none⟩ : Addr).add 1) = some (.int .i64 n7)) ∧
 (∃ g8 : Int × Int, (w1.cell? ((⟨w.heap.size, 0, none⟩ : Addr).add 2) = some (.int .i64 g8.1) ∧ w1.cell? (((⟨w.heap.size, 0, none⟩ : Addr).add 2).add 1) = some (.int .i64 g8.2)) ∧
 (c_txn_Manager_Read a0 n7 g8.1 g8.2 w1 fun (x9 : SV × Int) w10 =>
 (∃ n11 : Int, (w10.cell? ((⟨w.heap.size, 0, none⟩ : Addr).add 1) = some (.int .i64 n11)) ∧
 (∃ g12 : Int × Int, (w10.cell? ((⟨w.heap.size, 0, none⟩ : Addr).add 2) = some (.int .i64 g12.1) ∧ w10.cell? (((⟨w.heap.size, 0, none⟩ : Addr).add 2).add 1) = some (.int .i64 g12.2)) ∧
 (c_scarpref23_Manager_Read a1 n11 g12.1 g12.2 w10 fun (x13 : SV × Int) w14 =>
 (c_scarpalike_Bytes x9.1 x13.1 w14 fun (x15 : Bool) w16 =>
 (bsplit x15 (post ((decide ((x9.2 : Int) = x13.2))) w16)
 (post (false) w16))))))))))
 ((bsplit (decide ((n2 : Int) = 3))
 ((withW w1.drew fun w18 =>
 (∃ S17 : World → Prop, S17 w18 ∧
 (∃ n19 : Int, ((∀ w20, S17 w20 → w20.cell? ((⟨w.heap.size, 0, none⟩ : Addr).add 1) = some (.int .i64 n19))) ∧
 (∃ s21 : SV, ((∀ w22, S17 w22 → w22.cell? ((⟨w.heap.size, 0, none⟩ : Addr).add 4) = some (.slice s21.a s21.n s21.c))) ∧
 (∃ n23 : Int, ((∀ w24, S17 w24 → w24.cell? ((⟨w.heap.size, 0, none⟩ : Addr).add 1) = some (.int .i64 n23))) ∧
 (∃ s25 : SV, ((∀ w26, S17 w26 → w26.cell? ((⟨w.heap.size, 0, none⟩ : Addr).add 4) = some (.slice s25.a s25.n s25.c))) ∧
 (c_txn_Manager_Write a0 n19 s21 w18 fun (x27 : Int) w28 =>
 (S17 w28 ∧
 (c_scarpref23_Manager_Write a1 n23 s25 w28 fun (x29 : Int) w30 =>
 (S17 w30 ∧ post ((decide ((x27 : Int) = x29))) w30)))))))))))
 ((bsplit (decide ((n2 : Int) = 4))
 ((withW w1.drew fun w32 =>
 (∃ S31 : World → Prop, S31 w32 ∧
 (∃ n33 : Int, ((∀ w34, S31 w34 → w34.cell? ((⟨w.heap.size, 0, none⟩ : Addr).add 1) = some (.int .i64 n33))) ∧
 (∃ n35 : Int, ((∀ w36, S31 w36 → w36.cell? ((⟨w.heap.size, 0, none⟩ : Addr).add 1) = some (.int .i64 n35))) ∧
 (c_txn_Manager_Commit a0 n33 w32 fun (x37 : Int) w38 =>
 (S31 w38 ∧
 (c_scarpref23_Manager_Commit a1 n35 w38 fun (x39 : Int) w40 =>
 (S31 w40 ∧ post ((decide ((x37 : Int) = x39))) w40)))))))))
 ((bsplit (decide ((n2 : Int) = 5))
 ((withW w1.drew fun w42 =>
 (∃ S41 : World → Prop, S41 w42 ∧
 (∃ n43 : Int, ((∀ w44, S41 w44 → w44.cell? ((⟨w.heap.size, 0, none⟩ : Addr).add 1) = some (.int .i64 n43))) ∧
 (∃ n45 : Int, ((∀ w46, S41 w46 → w46.cell? ((⟨w.heap.size, 0, none⟩ : Addr).add 1) = some (.int .i64 n45))) ∧
 (c_txn_Manager_Abort a0 n43 w42 fun (x47 : Int) w48 =>
 (S41 w48 ∧
 (c_scarpref23_Manager_Abort a1 n45 w48 fun (x49 : Int) w50 =>
 (S41 w50 ∧ post ((decide ((x47 : Int) = x49))) w50)))))))))
 ((bsplit (decide ((n2 : Int) = 6))
 ((c_txn_Manager_Batch a0 w1 fun (x51 : (Int × SV) × Int) w52 =>
 (withW (w52.alloc (.cells #[.int .i64 0, .slice none 0 0] 42)) fun w53 =>
 ((f_scarplaw23_does_p1 w53 w52) ∧ (true = true) ∧
 (withW ((w53.setCell (⟨w52.heap.size, 0, none⟩ : Addr) (.int .i64 x51.1.1)).setCell ((⟨w52.heap.size, 0, none⟩ : Addr).add 1) (.slice x51.1.2.a x51.1.2.n x51.1.2.c)) fun w54 =>
 (c_scarpref23_Manager_Batch a1 w54 fun (x55 : (Int × SV) × Int) w56 =>
 (withW (w56.alloc (.cells #[.int .i64 0, .slice none 0 0] 42)) fun w57 =>
 ((f_scarplaw23_does_p1 w57 w56) ∧ (true = true) ∧
 (withW ((w57.setCell (⟨w56.heap.size, 0, none⟩ : Addr) (.int .i64 x55.1.1)).setCell ((⟨w56.heap.size, 0, none⟩ : Addr).add 1) (.slice x55.1.2.a x55.1.2.n x55.1.2.c)) fun w58 =>
 (∃ g59 : Int × SV, (w58.cell? (⟨w52.heap.size, 0, none⟩ : Addr) = some (.int .i64 g59.1) ∧ w58.cell? ((⟨w52.heap.size, 0, none⟩ : Addr).add 1) = some (.slice g59.2.a g59.2.n g59.2.c)) ∧
 (∃ g60 : Int × SV, (w58.cell? (⟨w56.heap.size, 0, none⟩ : Addr) = some (.int .i64 g60.1) ∧ w58.cell? ((⟨w56.heap.size, 0, none⟩ : Addr).add 1) = some (.slice g60.2.a g60.2.n g60.2.c)) ∧
 (c_scarpref11_SameBatch g59.1 g59.2 g60.1 g60.2 w58 fun (x61 : Bool) w62 =>
 (bsplit x61 (post ((decide ((x51.2 : Int) = x55.2))) w62)
 (post (false) w62))))))))))))))
 ((bsplit (decide ((n2 : Int) = 7))
 ((withW w1.drew fun w64 =>
 (∃ S63 : World → Prop, S63 w64 ∧
 (∃ n65 : Int, ((∀ w66, S63 w66 → w66.cell? ((⟨w.heap.size, 0, none⟩ : Addr).add 5) = some (.int .i64 n65))) ∧
 (∃ n67 : Int, ((∀ w68, S63 w68 → w68.cell? ((⟨w.heap.size, 0, none⟩ : Addr).add 5) = some (.int .i64 n67))) ∧
 (c_txn_Manager_Done a0 n65 w64 fun (x69 : Int) w70 =>
 (S63 w70 ∧
 (c_scarpref23_Manager_Done a1 n67 w70 fun (x71 : Int) w72 =>
 (S63 w72 ∧ post ((decide ((x69 : Int) = x71))) w72)))))))))
 ((bsplit (decide ((n2 : Int) = 8))
 ((∃ n73 : Int, (w1.cell? ((⟨w.heap.size, 0, none⟩ : Addr).add 5) = some (.int .i64 n73)) ∧ ((true = true) ∧ (2 : Int) ≠ 0 ∧
 (c_txn_Manager_ReadOnly a0 (!decide ((((n73 : Int).tmod 2) : Int) = 0)) w1 fun (x74 : Unit) w75 =>
 (∃ n76 : Int, (w75.cell? ((⟨w.heap.size, 0, none⟩ : Addr).add 5) = some (.int .i64 n76)) ∧ ((true = true) ∧ (2 : Int) ≠ 0 ∧
 (onP a1 fun p77 =>
 ((((∃ u, w75.cell? (p77.add 12) = some u) ∧ w75.frozen? (p77.add 12) = false)) ∧ (true = true) ∧
 (withW (w75.setCell (p77.add 12) (.bool (!decide ((((n76 : Int).tmod 2) : Int) = 0)))) fun w78 =>
 post (true) w78)))))))))
 ((bsplit (decide ((n2 : Int) = 9))
 ((c_txn_Manager_Prune a0 w1 fun (x79 : Int) w80 =>
 (c_scarpref23_Manager_Prune a1 w80 fun (x81 : Int) w82 =>
 post ((decide ((x79 : Int) = x81))) w82)))
 (post (true) w1))))))))))))))))))))
theorem scarplaw23_does_go {w : World} {a0 : Option Addr} {a1 : Option Addr} {a2c0 : Int} {a2c1 : Int} {a2c2 : Int} {a2c3 : Int} {a2c4 : SV} {a2c5 : Int} {post : RT [.cell (.bool)] → World → Prop} (h : f_scarplaw23_does a0 a1 a2c0 a2c1 a2c2 a2c3 a2c4 a2c5 w post) : c_scarplaw23_does a0 a1 a2c0 a2c1 a2c2 a2c3 a2c4 a2c5 w post :=
 calls_of_vc tab_ok Tryz.func42 (by kernel_rfl) (Eq.mpr (by kernel_rfl) h)
/-- scarp/scarplaw23.TxnReplay; loop over (t2 : Bool, t7 : Int, t8 : Int); loop over (t9 : SV, t10 : Int) -/
def f_scarplaw23_TxnReplay (a0 : SV) (w : World) (post : Bool → World → Prop) : Prop :=
 (c_scarplaw23_small a0 w fun (x1 : Bool) w2 =>
 (bsplit (!x1)
 ((c_scarplaw23_awake w2 fun (x3 : Bool) w4 =>
 post (x3) w4))
 ((c_txn_New 20 0 w2 fun (x5 : (Option Addr) × Int) w6 =>
 (c_scarpref23_New 20 0 w6 fun (x7 : (Option Addr) × Int) w8 =>
 (bsplit (!decide ((x5.2 : Int) = 0))
 (post (false) w8)
 ((bsplit ((x5.1).isNone)
 (post (false) w8)
 ((loopR (α := Bool × Int × Int) (false, 0, 0) w8 fun x9 w10 next11 =>
 (bsplit (decide ((x9.2.2 : Int) < ((a0.n : Nat) : Int)))
 ((0 ≤ (x9.2.2 : Int) ∧ (x9.2.2 : Int) < ((a0.n : Nat) : Int) ∧
 (onP a0.a fun p12 =>
 (∃ g13 : Int × Int × Int × Int × SV × Int, (w10.cell? (p12.add ((x9.2.2 : Int).toNat * 6)) = some (.int .i64 g13.1) ∧ w10.cell? ((p12.add ((x9.2.2 : Int).toNat * 6)).add 1) = some (.int .i64 g13.2.1) ∧ w10.cell? ((p12.add ((x9.2.2 : Int).toNat * 6)).add 2) = some (.int .i64 g13.2.2.1) ∧ w10.cell? ((p12.add ((x9.2.2 : Int).toNat * 6)).add 3) = some (.int .i64 g13.2.2.2.1) ∧ w10.cell? ((p12.add ((x9.2.2 : Int).toNat * 6)).add 4) = some (.slice g13.2.2.2.2.1.a g13.2.2.2.2.1.n g13.2.2.2.2.1.c) ∧ w10.cell? ((p12.add ((x9.2.2 : Int).toNat * 6)).add 5) = some (.int .i64 g13.2.2.2.2.2)) ∧
 (c_scarplaw23_does x5.1 x7.1 g13.1 g13.2.1 g13.2.2.1 g13.2.2.2.1 g13.2.2.2.2.1 g13.2.2.2.2.2 w10 fun (x14 : Bool) w15 =>
 (bsplit (!x14)
 (post (false) w15)
 ((0 ≤ (x9.2.2 : Int) ∧ (x9.2.2 : Int) < ((a0.n : Nat) : Int) ∧
 (onP a0.a fun p16 =>
 (∃ n17 : Int, (w15.cell? (p16.add ((x9.2.2 : Int).toNat * 6)) = some (.int .i64 n17)) ∧
 (bsplit (decide ((n17 : Int) = 1))
 ((withI (IntKind.i64.wrap (x9.2.1 + 1)) fun i18 =>
 (withI (IntKind.i64.wrap (x9.2.2 + 1)) fun i19 =>
 next11 (x9.1, i18, i19) w15)))
 ((withI (IntKind.i64.wrap (x9.2.2 + 1)) fun i20 =>
 next11 (x9.1, x9.2.1, i20) w15)))))))))))))
 ((loopR (α := SV × Int) (⟨none, 0, 0⟩, 1) w10 fun x21 w22 next23 =>
 (bsplit (decide ((x21.2 : Int) ≤ x9.2.1))
 ((c_txn_Manager_History x5.1 x21.2 w22 fun (x24 : (Int × Int × Int × Int × Int × SV × SV)) w25 =>
 (withW (w25.alloc (.cells #[.int .i64 x24.1, .int .i64 x24.2.1, .int .i64 x24.2.2.1, .int .i64 x24.2.2.2.1, .int .i64 x24.2.2.2.2.1, .slice x24.2.2.2.2.2.1.a x24.2.2.2.2.2.1.n x24.2.2.2.2.2.1.c, .slice x24.2.2.2.2.2.2.a x24.2.2.2.2.2.2.n x24.2.2.2.2.2.2.c] 73)) fun w26 =>
 (appendR x21.1 (⟨(some (⟨w25.heap.size, 0, none⟩ : Addr)), 1, 1⟩) 7 88 [.int .i64 0, .int .i64 0, .int .i64 0, .int .i64 0, .int .i64 0, .slice none 0 0, .slice none 0 0] 73 w26 fun (s27 : SV) w28 =>
 next23 (⟨s27.a, s27.n, s27.c⟩, (IntKind.i64.wrap (x21.2 + 1))) w28))))
 ((c_scarpref20_Replay 20 x21.1 w22 fun (x29 : (Option Addr) × Int) w30 =>
 (bsplit (!decide ((x29.2 : Int) = 0))
 (post (false) w30)
 ((c_scarpref20_New 20 w30 fun (x31 : (Option Addr) × Int) w32 =>
 (c_txn_Manager_Dump x5.1 w32 fun (x33 : SV) w34 =>
 (c_scarpref20_M_Run x31.1 0 x33 w34 fun (x35 : Int) w36 =>
 (c_scarpref20_M_All x31.1 w36 fun (x37 : SV) w38 =>
 (c_scarpref20_M_All x29.1 w38 fun (x39 : SV) w40 =>
 (c_scarpref11_SamePuts x37 x39 w40 fun (x41 : Bool) w42 =>
 (bsplit x41 ((c_scarplaw23_awake w42 fun (x43 : Bool) w44 =>
 post (x43) w44))
 (post (false) w42))))))))))))))))))))))))))
theorem scarplaw23_TxnReplay_go {w : World} {a0 : SV} {post : RT [.cell (.bool)] → World → Prop} (h : f_scarplaw23_TxnReplay a0 w post) : c_scarplaw23_TxnReplay a0 w post :=
 calls_of_vc tab_ok Tryz.func15 (by kernel_rfl) (Eq.mpr (by kernel_rfl) h)
end Go.Proofs.YtbolgpjcmchfoaaGreat
