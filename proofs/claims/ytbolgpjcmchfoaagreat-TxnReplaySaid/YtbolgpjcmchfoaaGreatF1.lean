/- Readable conditions of functions, each tied to its own code by the kernel. -/
import Derived.Test.YtbolgpjcmchfoaaGreatTab
namespace Go.Proofs.YtbolgpjcmchfoaaGreat
open Go Go.Vc
set_option linter.unusedVariables false
/-- scarp/scarplaw23.awake -/
def f_scarplaw23_awake  (w : World) (post : Bool → World → Prop) : Prop :=
 (c_txn_New 5 0 w fun (x1 : (Option Addr) × Int) w2 =>
 (bsplit (!decide ((x1.2 : Int) = 0))
 (post (false) w2)
 ((bsplit ((x1.1).isNone)
 (post (false) w2)
 ((c_txn_Manager_Begin x1.1 w2 fun (x3 : Int × Int) w4 =>
 (bsplit (!decide ((x3.2 : Int) = 0))
 (post (false) w4)
 ((bsplit (!decide ((x3.1 : Int) = 1))
 (post (false) w4)
 ((c_scarpalike_Data 1 w4 fun (x5 : SV) w6 =>
 (withW (w6.alloc (.cells #[.int .i64 0, .slice x5.a x5.n x5.c] 33)) fun w7 =>
 (c_txn_Manager_Write x1.1 1 (⟨(some (⟨w6.heap.size, 0, none⟩ : Addr)), 1, 1⟩) w7 fun (x8 : Int) w9 =>
 (bsplit (!decide ((x8 : Int) = 0))
 (post (false) w9)
 ((c_txn_Manager_Commit x1.1 1 w9 fun (x10 : Int) w11 =>
 (bsplit (!decide ((x10 : Int) = 0))
 (post (false) w11)
 ((c_txn_Manager_Batch x1.1 w11 fun (x12 : (Int × SV) × Int) w13 =>
 (withW (w13.alloc (.cells #[.int .i64 0, .slice none 0 0] 42)) fun w14 =>
 ((((∃ u, w14.cell? (⟨w13.heap.size, 0, none⟩ : Addr) = some u) ∧ w14.frozen? (⟨w13.heap.size, 0, none⟩ : Addr) = false) ∧ ((∃ u, w14.cell? ((⟨w13.heap.size, 0, none⟩ : Addr).add 1) = some u) ∧ w14.frozen? ((⟨w13.heap.size, 0, none⟩ : Addr).add 1) = false)) ∧ (true = true) ∧
 (withW ((w14.setCell (⟨w13.heap.size, 0, none⟩ : Addr) (.int .i64 x12.1.1)).setCell ((⟨w13.heap.size, 0, none⟩ : Addr).add 1) (.slice x12.1.2.a x12.1.2.n x12.1.2.c)) fun w15 =>
 (c_txn_Manager_Result x1.1 1 w15 fun (x16 : Int × Int × Int) w17 =>
 (bsplit (!decide ((x12.2 : Int) = 0))
 (post (false) w17)
 ((bsplit (!decide ((x16.1 : Int) = 2))
 (post (false) w17)
 ((bsplit (!decide ((x16.2.1 : Int) = 1))
 (post (false) w17)
 ((bsplit (!decide ((x16.2.2 : Int) = 0))
 (post (false) w17)
 ((c_txn_Manager_Done x1.1 0 w17 fun (x18 : Int) w19 =>
 (bsplit (!decide ((x18 : Int) = 0))
 (post (false) w19)
 ((c_txn_Manager_Result x1.1 1 w19 fun (x20 : Int × Int × Int) w21 =>
 (bsplit (decide ((x20.1 : Int) = 3))
 ((bsplit (decide ((x20.2.1 : Int) = 1))
 ((c_txn_Manager_Last x1.1 w21 fun (x22 : Int) w23 =>
 post ((decide ((x22 : Int) = 1))) w23))
 (post (false) w21)))
 (post (false) w21)))))))))))))))))))))))))))))))))))))
theorem scarplaw23_awake_go {w : World}  {post : RT [.cell (.bool)] → World → Prop} (h : f_scarplaw23_awake  w post) : c_scarplaw23_awake  w post :=
 calls_of_vc tab_ok Tryz.func17 (by kernel_rfl) (Eq.mpr (by kernel_rfl) h)
/-- scarp/txn.New -/
def f_txn_New (a0 : Int) (a1 : Int) (w : World) (post : ((Option Addr) × Int) → World → Prop) : Prop :=
 (c_extmap_New a0 w fun (x1 : (Option Addr) × Int) w2 =>
 (bsplit (!decide ((x1.2 : Int) = 0))
 (post (none, 1) w2)
 ((bsplit (decide ((a1 : Int) < 0))
 (post (none, 1) w2)
 ((bsplit (decide ((1099511627776 : Int) < a1))
 (post (none, 1) w2)
 ((c_horizon_New 16 w2 fun (x3 : (Option Addr)) w4 =>
 (withW (w4.alloc (.map #[] 0)) fun w5 =>
 (withW (w5.alloc (.cells #[.pointer x1.1, .pointer x3, .map (some w4.heap.size), .slice none 0 0, .int .i64 0, .int .i64 0, .int .i64 a1, .int .i64 a1, .int .i64 a1, .bool false] 106)) fun w6 =>
 post ((some (⟨w5.heap.size, 0, none⟩ : Addr)), 0) w6))))))))))
theorem txn_New_go {w : World} {a0 : Int} {a1 : Int} {post : RT [.cell (.ptr), .cell (.int .i64)] → World → Prop} (h : f_txn_New a0 a1 w post) : c_txn_New a0 a1 w post :=
 calls_of_vc tab_ok Tryz.func18 (by kernel_rfl) (Eq.mpr (by kernel_rfl) h)
/-- (*scarp/txn.Manager).Begin -/
def f_txn_Manager_Begin (a0 : Option Addr) (w : World) (post : (Int × Int) → World → Prop) : Prop :=
 (c_txn_Manager_gone a0 w fun (x1 : Bool) w2 =>
 (bsplit x1
 (post (0, 6) w2)
 ((withW w2.drew fun w4 =>
 (∃ S3 : World → Prop, S3 w4 ∧
 (onP a0 fun p5 =>
 (∃ q6 : Option Addr, ((∀ w7, S3 w7 → w7.cell? (p5.add 1) = some (.pointer q6))) ∧
 (onP a0 fun p8 =>
 (∃ n9 : Int, ((∀ w10, S3 w10 → w10.cell? (p8.add 7) = some (.int .i64 n9))) ∧
 (c_horizon_Book_Open q6 n9 w4 fun (x11 : Int × Int) w12 =>
 (S3 w12 ∧
 (bsplit (!decide ((x11.2 : Int) = 0))
 (post (0, x11.2) w12)
 ((onP a0 fun p13 =>
 (∃ q14 : Option Addr, (w12.cell? p13 = some (.pointer q14)) ∧
 (c_extmap_Map_Blocks q14 w12 fun (x15 : Int) w16 =>
 (c_wbuf_New x15 16 w16 fun (x17 : (Option Addr) × Int) w18 =>
 (withW w18.drew fun w20 =>
 (∃ S19 : World → Prop, S19 w20 ∧
 (onP a0 fun p21 =>
 (∃ r22 : Option Nat, ((∀ w23, S19 w23 → w23.cell? (p21.add 2) = some (.map r22))) ∧
 (onP a0 fun p24 =>
 (∃ n25 : Int, ((∀ w26, S19 w26 → w26.cell? (p24.add 7) = some (.int .i64 n25))) ∧
 (onP a0 fun p27 =>
 (∃ q28 : Option Addr, ((∀ w29, S19 w29 → w29.cell? p27 = some (.pointer q28))) ∧
 (onP a0 fun p30 =>
 (∃ n31 : Int, ((∀ w32, S19 w32 → w32.cell? (p30.add 7) = some (.int .i64 n31))) ∧
 (c_rset_New q28 x17.1 n31 w20 fun (x33 : (Option Addr)) w34 =>
 (S19 w34 ∧
 (withW (w34.alloc (.cells #[.int .i64 1, .int .i64 0, .int .i64 0, .int .i64 n25, .pointer x17.1, .pointer x33] 115)) fun w35 =>
 (S19 w35 ∧
 ((true = true) ∧ (onM r22 (False) fun m36 =>
 (∃ (es37 : List En) (cl38 : Nat), mapAt w35 m36 .i64 es37 cl38 ∧
 (withW (World.setObj w35 m36 (.map (entries .i64 (putM es37 cl38 x11.1 (.pointer (some (⟨w34.heap.size, 0, none⟩ : Addr))))) (putClock es37 cl38 x11.1))) fun w39 =>
 post (x11.1, 0) w39)))))))))))))))))))))))))))))))))))
theorem txn_Manager_Begin_go {w : World} {a0 : Option Addr} {post : RT [.cell (.int .i64), .cell (.int .i64)] → World → Prop} (h : f_txn_Manager_Begin a0 w post) : c_txn_Manager_Begin a0 w post :=
 calls_of_vc tab_ok Tryz.func19 (by kernel_rfl) (Eq.mpr (by kernel_rfl) h)
/-- (*scarp/txn.Manager).Write -/
def f_txn_Manager_Write (a0 : Option Addr) (a1 : Int) (a2 : SV) (w : World) (post : Int → World → Prop) : Prop :=
 (c_txn_Manager_open a0 a1 w fun (x1 : (Option Addr)) w2 =>
 (bsplit ((x1).isNone)
 (post (5) w2)
 ((onP x1 fun p3 =>
 (∃ q4 : Option Addr, (w2.cell? (p3.add 4) = some (.pointer q4)) ∧
 (c_wbuf_Buf_Write q4 a2 w2 fun (x5 : Int) w6 =>
 post (x5) w6))))))
theorem txn_Manager_Write_go {w : World} {a0 : Option Addr} {a1 : Int} {a2 : SV} {post : RT [.cell (.int .i64)] → World → Prop} (h : f_txn_Manager_Write a0 a1 a2 w post) : c_txn_Manager_Write a0 a1 a2 w post :=
 calls_of_vc tab_ok Tryz.func20 (by kernel_rfl) (Eq.mpr (by kernel_rfl) h)
/-- scarp/scarpalike.Data -/
def f_scarpalike_Data (a0 : Int) (w : World) (post : SV → World → Prop) : Prop :=
 (c_scarpalike_Block 40 a0 w fun (x1 : SV) w2 =>
 post (⟨x1.a, x1.n, x1.c⟩) w2)
theorem scarpalike_Data_go {w : World} {a0 : Int} {post : RT [.cell (.slice)] → World → Prop} (h : f_scarpalike_Data a0 w post) : c_scarpalike_Data a0 w post :=
 calls_of_vc tab_ok Tryz.func21 (by kernel_rfl) (Eq.mpr (by kernel_rfl) h)
/-- (*scarp/txn.Manager).Commit -/
def f_txn_Manager_Commit (a0 : Option Addr) (a1 : Int) (w : World) (post : Int → World → Prop) : Prop :=
 (c_txn_Manager_open a0 a1 w fun (x1 : (Option Addr)) w2 =>
 (bsplit ((x1).isNone)
 (post (5) w2)
 ((onP x1 fun p3 =>
 (∃ q4 : Option Addr, (w2.cell? (p3.add 4) = some (.pointer q4)) ∧
 (c_wbuf_Buf_Len q4 w2 fun (x5 : Int) w6 =>
 (bsplit (decide ((x5 : Int) = 0))
 ((onP x1 fun p7 =>
 (∃ n8 : Int, (w6.cell? (p7.add 3) = some (.int .i64 n8)) ∧
 (onP x1 fun p9 =>
 ((((∃ u, w6.cell? (p9.add 1) = some u) ∧ w6.frozen? (p9.add 1) = false)) ∧ (true = true) ∧
 (withW (w6.setCell (p9.add 1) (.int .i64 n8)) fun w10 =>
 (c_txn_Manager_end a0 a1 3 0 w10 fun (x11 : Unit) w12 =>
 post (0) w12)))))))
 ((c_txn_Manager_may a0 x1 w6 fun (x13 : Int) w14 =>
 (bsplit (!decide ((x13 : Int) = 0))
 ((c_txn_Manager_end a0 a1 4 x13 w14 fun (x15 : Unit) w16 =>
 post (x13) w16))
 ((onP a0 fun p17 =>
 (∃ n18 : Int, (w14.cell? (p17.add 8) = some (.int .i64 n18)) ∧
 (onP a0 fun p19 =>
 ((((∃ u, w14.cell? (p19.add 8) = some u) ∧ w14.frozen? (p19.add 8) = false)) ∧ (true = true) ∧
 (withW (w14.setCell (p19.add 8) (.int .i64 (IntKind.i64.wrap (n18 + 1)))) fun w20 =>
 (onP a0 fun p21 =>
 (∃ n22 : Int, (w20.cell? (p21.add 8) = some (.int .i64 n22)) ∧
 (onP x1 fun p23 =>
 ((((∃ u, w20.cell? p23 = some u) ∧ w20.frozen? p23 = false)) ∧ (true = true) ∧
 (withW (w20.setCell p23 (.int .i64 2)) fun w24 =>
 (onP x1 fun p25 =>
 ((((∃ u, w24.cell? (p25.add 1) = some u) ∧ w24.frozen? (p25.add 1) = false)) ∧ (true = true) ∧
 (withW (w24.setCell (p25.add 1) (.int .i64 n22)) fun w26 =>
 (onP a0 fun p27 =>
 (∃ s28 : SV, (w26.cell? (p27.add 3) = some (.slice s28.a s28.n s28.c)) ∧
 (withW (w26.alloc (.cells #[.int .i64 a1] 3)) fun w29 =>
 (appendR s28 (⟨(some (⟨w26.heap.size, 0, none⟩ : Addr)), 1, 1⟩) 1 8 [.int .i64 0] 3 w29 fun (s30 : SV) w31 =>
 (onP a0 fun p32 =>
 ((((∃ u, w31.cell? (p32.add 3) = some u) ∧ w31.frozen? (p32.add 3) = false)) ∧ (true = true) ∧
 (withW (w31.setCell (p32.add 3) (.slice s30.a s30.n s30.c)) fun w33 =>
 post (0) w33)))))))))))))))))))))))))))))))
theorem txn_Manager_Commit_go {w : World} {a0 : Option Addr} {a1 : Int} {post : RT [.cell (.int .i64)] → World → Prop} (h : f_txn_Manager_Commit a0 a1 w post) : c_txn_Manager_Commit a0 a1 w post :=
 calls_of_vc tab_ok Tryz.func22 (by kernel_rfl) (Eq.mpr (by kernel_rfl) h)
/-- (*scarp/txn.Manager).Result -/
def f_txn_Manager_Result (a0 : Option Addr) (a1 : Int) (w : World) (post : (Int × Int × Int) → World → Prop) : Prop :=
 (c_txn_Manager_gone a0 w fun (x1 : Bool) w2 =>
 (bsplit x1
 (post (0, 0, 0) w2)
 ((onP a0 fun p3 =>
 (∃ r4 : Option Nat, (w2.cell? (p3.add 2) = some (.map r4)) ∧
 ((true = true) ∧ (onM r4 (post (0, 0, 0) w2) fun m5 =>
 (∃ es6 : List En, (∃ cl7, mapAt w2 m5 .i64 es6 cl7) ∧ ∃ x8 : Option Addr, (findE es6 a1).getD (.pointer none) = .pointer x8 ∧
 (bsplit (!(findE es6 a1).isSome)
 (post (0, 0, 0) w2)
 ((withW w2.drew fun w9 =>
 (onP x8 fun p10 =>
 (∃ n11 : Int, (w9.cell? p10 = some (.int .i64 n11)) ∧
 (onP x8 fun p12 =>
 (∃ n13 : Int, (w9.cell? (p12.add 1) = some (.int .i64 n13)) ∧
 (onP x8 fun p14 =>
 (∃ n15 : Int, (w9.cell? (p14.add 2) = some (.int .i64 n15)) ∧
 post (n11, n13, n15) w9)))))))))))))))))
theorem txn_Manager_Result_go {w : World} {a0 : Option Addr} {a1 : Int} {post : RT [.cell (.int .i64), .cell (.int .i64), .cell (.int .i64)] → World → Prop} (h : f_txn_Manager_Result a0 a1 w post) : c_txn_Manager_Result a0 a1 w post :=
 calls_of_vc tab_ok Tryz.func23 (by kernel_rfl) (Eq.mpr (by kernel_rfl) h)
/-- (*scarp/txn.Manager).Abort -/
def f_txn_Manager_Abort (a0 : Option Addr) (a1 : Int) (w : World) (post : Int → World → Prop) : Prop :=
 (c_txn_Manager_open a0 a1 w fun (x1 : (Option Addr)) w2 =>
 (bsplit ((x1).isNone)
 (post (5) w2)
 ((c_txn_Manager_end a0 a1 4 0 w2 fun (x3 : Unit) w4 =>
 post (0) w4))))
theorem txn_Manager_Abort_go {w : World} {a0 : Option Addr} {a1 : Int} {post : RT [.cell (.int .i64)] → World → Prop} (h : f_txn_Manager_Abort a0 a1 w post) : c_txn_Manager_Abort a0 a1 w post :=
 calls_of_vc tab_ok Tryz.func24 (by kernel_rfl) (Eq.mpr (by kernel_rfl) h)
/-- scarp/scarpalike.Round -/
def f_scarpalike_Round (a0 : Int) (a1 : Int) (w : World) (post : Int → World → Prop) : Prop :=
 ((true = true) ∧ (a1 : Int) ≠ 0 ∧
 (bsplit (decide ((((a0 : Int).tmod a1) : Int) < 0))
 ((withI (IntKind.i64.wrap (((a0 : Int).tmod a1) + a1)) fun i1 =>
 post (i1) w))
 (post (((a0 : Int).tmod a1)) w)))
theorem scarpalike_Round_go {w : World} {a0 : Int} {a1 : Int} {post : RT [.cell (.int .i64)] → World → Prop} (h : f_scarpalike_Round a0 a1 w post) : c_scarpalike_Round a0 a1 w post :=
 calls_of_vc tab_ok Tryz.func25 (by kernel_rfl) (Eq.mpr (by kernel_rfl) h)
/-- (*scarp/txn.Manager).Batch -/
def f_txn_Manager_Batch (a0 : Option Addr) (w : World) (post : ((Int × SV) × Int) → World → Prop) : Prop :=
 (withW (w.alloc (.cells #[.int .i64 0, .slice none 0 0] 42)) fun w1 =>
 (c_txn_Manager_gone a0 w1 fun (x2 : Bool) w3 =>
 (bsplit x2
 (((((∃ u, w3.cell? (⟨w.heap.size, 0, none⟩ : Addr) = some u) ∧ w3.frozen? (⟨w.heap.size, 0, none⟩ : Addr) = false) ∧ ((∃ u, w3.cell? ((⟨w.heap.size, 0, none⟩ : Addr).add 1) = some u) ∧ w3.frozen? ((⟨w.heap.size, 0, none⟩ : Addr).add 1) = false)) ∧ (true = true) ∧
 (withW ((w3.setCell (⟨w.heap.size, 0, none⟩ : Addr) (.int .i64 0)).setCell ((⟨w.heap.size, 0, none⟩ : Addr).add 1) (.slice none 0 0)) fun w4 =>
 (∃ g5 : Int × SV, (w4.cell? (⟨w.heap.size, 0, none⟩ : Addr) = some (.int .i64 g5.1) ∧ w4.cell? ((⟨w.heap.size, 0, none⟩ : Addr).add 1) = some (.slice g5.2.a g5.2.n g5.2.c)) ∧
 post ((g5.1, ⟨g5.2.a, g5.2.n, g5.2.c⟩), 14) w4))))
 ((onP a0 fun p6 =>
 (∃ n7 : Int, (w3.cell? (p6.add 4) = some (.int .i64 n7)) ∧
 (bsplit (decide ((0 : Int) < n7))
 (((((∃ u, w3.cell? (⟨w.heap.size, 0, none⟩ : Addr) = some u) ∧ w3.frozen? (⟨w.heap.size, 0, none⟩ : Addr) = false) ∧ ((∃ u, w3.cell? ((⟨w.heap.size, 0, none⟩ : Addr).add 1) = some u) ∧ w3.frozen? ((⟨w.heap.size, 0, none⟩ : Addr).add 1) = false)) ∧ (true = true) ∧
 (withW ((w3.setCell (⟨w.heap.size, 0, none⟩ : Addr) (.int .i64 0)).setCell ((⟨w.heap.size, 0, none⟩ : Addr).add 1) (.slice none 0 0)) fun w8 =>
 (∃ g9 : Int × SV, (w8.cell? (⟨w.heap.size, 0, none⟩ : Addr) = some (.int .i64 g9.1) ∧ w8.cell? ((⟨w.heap.size, 0, none⟩ : Addr).add 1) = some (.slice g9.2.a g9.2.n g9.2.c)) ∧
 post ((g9.1, ⟨g9.2.a, g9.2.n, g9.2.c⟩), 16) w8))))
 ((onP a0 fun p10 =>
 (∃ s11 : SV, (w3.cell? (p10.add 3) = some (.slice s11.a s11.n s11.c)) ∧
 (bsplit (decide ((((s11.n : Nat) : Int) : Int) = 0))
 (((((∃ u, w3.cell? (⟨w.heap.size, 0, none⟩ : Addr) = some u) ∧ w3.frozen? (⟨w.heap.size, 0, none⟩ : Addr) = false) ∧ ((∃ u, w3.cell? ((⟨w.heap.size, 0, none⟩ : Addr).add 1) = some u) ∧ w3.frozen? ((⟨w.heap.size, 0, none⟩ : Addr).add 1) = false)) ∧ (true = true) ∧
 (withW ((w3.setCell (⟨w.heap.size, 0, none⟩ : Addr) (.int .i64 0)).setCell ((⟨w.heap.size, 0, none⟩ : Addr).add 1) (.slice none 0 0)) fun w12 =>
 (∃ g13 : Int × SV, (w12.cell? (⟨w.heap.size, 0, none⟩ : Addr) = some (.int .i64 g13.1) ∧ w12.cell? ((⟨w.heap.size, 0, none⟩ : Addr).add 1) = some (.slice g13.2.a g13.2.n g13.2.c)) ∧
 post ((g13.1, ⟨g13.2.a, g13.2.n, g13.2.c⟩), 14) w12))))
 ((c_txn_Manager_waiting a0 w3 fun (x14 : SV) w15 =>
 (c_batch_Form x14 w15 fun (x16 : Int) w17 =>
 (onP a0 fun p18 =>
 ((((∃ u, w17.cell? (p18.add 4) = some u) ∧ w17.frozen? (p18.add 4) = false)) ∧ (true = true) ∧
 (withW (w17.setCell (p18.add 4) (.int .i64 x16)) fun w19 =>
 (withW w19.drew fun w21 =>
 (∃ S20 : World → Prop, S20 w21 ∧
 (onP a0 fun p22 =>
 (∃ n23 : Int, ((∀ w24, S20 w24 → w24.cell? (p22.add 5) = some (.int .i64 n23))) ∧
 (onP a0 fun p25 =>
 (∃ n26 : Int, ((∀ w27, S20 w27 → w27.cell? (p25.add 4) = some (.int .i64 n26))) ∧
 (0 ≤ (0 : Int) ∧ (0 : Int) ≤ (n26 : Int) ∧ (n26 : Int) ≤ ((x14.c : Nat) : Int) ∧
 ((((∃ u, w21.cell? (⟨w.heap.size, 0, none⟩ : Addr) = some u) ∧ w21.frozen? (⟨w.heap.size, 0, none⟩ : Addr) = false) ∧ ((∃ u, w21.cell? ((⟨w.heap.size, 0, none⟩ : Addr).add 1) = some u) ∧ w21.frozen? ((⟨w.heap.size, 0, none⟩ : Addr).add 1) = false)) ∧ (true = true) ∧
 (withW ((w21.setCell (⟨w.heap.size, 0, none⟩ : Addr) (.int .i64 (IntKind.i64.wrap (n23 + 1)))).setCell ((⟨w.heap.size, 0, none⟩ : Addr).add 1) (.slice (sub? x14.a (0 : Int).toNat x14.c 2) ((n26 : Int).toNat - (0 : Int).toNat) (x14.c - (0 : Int).toNat))) fun w28 =>
 (S20 w28 ∧
 (∃ g29 : Int × SV, (w28.cell? (⟨w.heap.size, 0, none⟩ : Addr) = some (.int .i64 g29.1) ∧ w28.cell? ((⟨w.heap.size, 0, none⟩ : Addr).add 1) = some (.slice g29.2.a g29.2.n g29.2.c)) ∧
 post ((g29.1, ⟨g29.2.a, g29.2.n, g29.2.c⟩), 0) w28))))))))))))))))))))))))))))
theorem txn_Manager_Batch_go {w : World} {a0 : Option Addr} {post : RT [.agg [.int .i64, .slice], .cell (.int .i64)] → World → Prop} (h : f_txn_Manager_Batch a0 w post) : c_txn_Manager_Batch a0 w post :=
 calls_of_vc tab_ok Tryz.func27 (by kernel_rfl) (Eq.mpr (by kernel_rfl) h)
/-- (*scarp/txn.Manager).Done; loop over (t35 : Int) -/
def f_txn_Manager_Done (a0 : Option Addr) (a1 : Int) (w : World) (post : Int → World → Prop) : Prop :=
 (c_txn_Manager_gone a0 w fun (x1 : Bool) w2 =>
 (bsplit x1
 (post (14) w2)
 ((onP a0 fun p3 =>
 (∃ n4 : Int, (w2.cell? (p3.add 4) = some (.int .i64 n4)) ∧
 (bsplit (decide ((n4 : Int) = 0))
 (post (14) w2)
 ((withW w2.drew fun w6 =>
 (∃ S5 : World → Prop, S5 w6 ∧
 (onP a0 fun p7 =>
 (∃ n8 : Int, ((∀ w9, S5 w9 → w9.cell? (p7.add 4) = some (.int .i64 n8))) ∧
 (c_txn_Manager_waiting a0 w6 fun (x10 : SV) w11 =>
 (S5 w11 ∧
 (0 ≤ (0 : Int) ∧ (0 : Int) ≤ (n8 : Int) ∧ (n8 : Int) ≤ ((x10.c : Nat) : Int) ∧
 (withW w11.drew fun w13 =>
 (∃ S12 : World → Prop, S12 w13 ∧
 (onP a0 fun p14 =>
 (∃ s15 : SV, ((∀ w16, S12 w16 → w16.cell? (p14.add 3) = some (.slice s15.a s15.n s15.c))) ∧
 (onP a0 fun p17 =>
 (∃ n18 : Int, ((∀ w19, S12 w19 → w19.cell? (p17.add 4) = some (.int .i64 n18))) ∧
 (0 ≤ (0 : Int) ∧ (0 : Int) ≤ (n18 : Int) ∧ (n18 : Int) ≤ ((s15.c : Nat) : Int) ∧
 (c_slices_Clone_int_int (⟨(sub? s15.a (0 : Int).toNat s15.c 1), ((n18 : Int).toNat - (0 : Int).toNat), (s15.c - (0 : Int).toNat)⟩) w13 fun (x20 : SV) w21 =>
 (S12 w21 ∧
 (loopR (α := Int) (0) w21 fun x22 w23 next24 =>
 (bsplit (decide ((x22 : Int) < ((x20.n : Nat) : Int)))
 ((0 ≤ (x22 : Int) ∧ (x22 : Int) < ((x20.n : Nat) : Int) ∧
 (onP x20.a fun p25 =>
 (∃ n26 : Int, (w23.cell? (p25.add ((x22 : Int).toNat * 1)) = some (.int .i64 n26)) ∧
 (bsplit (!decide ((a1 : Int) = 0))
 ((c_txn_Manager_end a0 n26 4 a1 w23 fun (x27 : Unit) w28 =>
 next24 ((IntKind.i64.wrap (x22 + 1))) w28))
 ((withW w23.drew fun w30 =>
 (∃ S29 : World → Prop, S29 w30 ∧
 (onP a0 fun p31 =>
 (∃ q32 : Option Addr, ((∀ w33, S29 w33 → w33.cell? p31 = some (.pointer q32))) ∧
 (0 ≤ (x22 : Int) ∧ (x22 : Int) < ((((n8 : Int).toNat - (0 : Int).toNat) : Nat) : Int) ∧
 (onP (sub? x10.a (0 : Int).toNat x10.c 2) fun p34 =>
 (∃ g35 : Int × SV, ((∀ w36, S29 w36 → w36.cell? (p34.add ((x22 : Int).toNat * 2)) = some (.int .i64 g35.1) ∧ w36.cell? ((p34.add ((x22 : Int).toNat * 2)).add 1) = some (.slice g35.2.a g35.2.n g35.2.c))) ∧
 (c_extmap_Map_Apply q32 g35.1 g35.2 w30 fun (x37 : Int) w38 =>
 (S29 w38 ∧
 (0 ≤ (x22 : Int) ∧ (x22 : Int) < ((((n8 : Int).toNat - (0 : Int).toNat) : Nat) : Int) ∧
 (onP (sub? x10.a (0 : Int).toNat x10.c 2) fun p39 =>
 (∃ n40 : Int, (w38.cell? (p39.add ((x22 : Int).toNat * 2)) = some (.int .i64 n40)) ∧
 (onP a0 fun p41 =>
 ((((∃ u, w38.cell? (p41.add 7) = some u) ∧ w38.frozen? (p41.add 7) = false)) ∧ (true = true) ∧
 (withW (w38.setCell (p41.add 7) (.int .i64 n40)) fun w42 =>
 (c_txn_Manager_end a0 n26 3 0 w42 fun (x43 : Unit) w44 =>
 next24 ((IntKind.i64.wrap (x22 + 1))) w44))))))))))))))))))))))
 ((bsplit (decide ((a1 : Int) = 0))
 ((onP a0 fun p45 =>
 (∃ n46 : Int, (w23.cell? (p45.add 5) = some (.int .i64 n46)) ∧
 (onP a0 fun p47 =>
 ((((∃ u, w23.cell? (p47.add 5) = some u) ∧ w23.frozen? (p47.add 5) = false)) ∧ (true = true) ∧
 (withW (w23.setCell (p47.add 5) (.int .i64 (IntKind.i64.wrap (n46 + 1)))) fun w48 =>
 (withW w48.drew fun w50 =>
 (∃ S49 : World → Prop, S49 w50 ∧
 (onP a0 fun p51 =>
 (∃ s52 : SV, ((∀ w53, S49 w53 → w53.cell? (p51.add 3) = some (.slice s52.a s52.n s52.c))) ∧
 (onP a0 fun p54 =>
 (∃ n55 : Int, ((∀ w56, S49 w56 → w56.cell? (p54.add 4) = some (.int .i64 n55))) ∧
 (0 ≤ (n55 : Int) ∧ (n55 : Int) ≤ (((s52.n : Nat) : Int) : Int) ∧ (((s52.n : Nat) : Int) : Int) ≤ ((s52.c : Nat) : Int) ∧
 (c_slices_Clone_int_int (⟨(sub? s52.a (n55 : Int).toNat s52.c 1), ((((s52.n : Nat) : Int) : Int).toNat - (n55 : Int).toNat), (s52.c - (n55 : Int).toNat)⟩) w50 fun (x57 : SV) w58 =>
 (S49 w58 ∧
 (onP a0 fun p59 =>
 ((((∃ u, w58.cell? (p59.add 3) = some u) ∧ w58.frozen? (p59.add 3) = false)) ∧ (true = true) ∧
 (withW (w58.setCell (p59.add 3) (.slice x57.a x57.n x57.c)) fun w60 =>
 (onP a0 fun p61 =>
 ((((∃ u, w60.cell? (p61.add 4) = some u) ∧ w60.frozen? (p61.add 4) = false)) ∧ (true = true) ∧
 (withW (w60.setCell (p61.add 4) (.int .i64 0)) fun w62 =>
 post (0) w62)))))))))))))))))))))
 ((withW w23.drew fun w64 =>
 (∃ S63 : World → Prop, S63 w64 ∧
 (onP a0 fun p65 =>
 (∃ s66 : SV, ((∀ w67, S63 w67 → w67.cell? (p65.add 3) = some (.slice s66.a s66.n s66.c))) ∧
 (onP a0 fun p68 =>
 (∃ n69 : Int, ((∀ w70, S63 w70 → w70.cell? (p68.add 4) = some (.int .i64 n69))) ∧
 (0 ≤ (n69 : Int) ∧ (n69 : Int) ≤ (((s66.n : Nat) : Int) : Int) ∧ (((s66.n : Nat) : Int) : Int) ≤ ((s66.c : Nat) : Int) ∧
 (c_slices_Clone_int_int (⟨(sub? s66.a (n69 : Int).toNat s66.c 1), ((((s66.n : Nat) : Int) : Int).toNat - (n69 : Int).toNat), (s66.c - (n69 : Int).toNat)⟩) w64 fun (x71 : SV) w72 =>
 (S63 w72 ∧
 (onP a0 fun p73 =>
 ((((∃ u, w72.cell? (p73.add 3) = some u) ∧ w72.frozen? (p73.add 3) = false)) ∧ (true = true) ∧
 (withW (w72.setCell (p73.add 3) (.slice x71.a x71.n x71.c)) fun w74 =>
 (onP a0 fun p75 =>
 ((((∃ u, w74.cell? (p75.add 4) = some u) ∧ w74.frozen? (p75.add 4) = false)) ∧ (true = true) ∧
 (withW (w74.setCell (p75.add 4) (.int .i64 0)) fun w76 =>
 post (0) w76)))))))))))))))))))))))))))))))))))))))))))
theorem txn_Manager_Done_go {w : World} {a0 : Option Addr} {a1 : Int} {post : RT [.cell (.int .i64)] → World → Prop} (h : f_txn_Manager_Done a0 a1 w post) : c_txn_Manager_Done a0 a1 w post :=
 calls_of_vc tab_ok Tryz.func28 (by kernel_rfl) (Eq.mpr (by kernel_rfl) h)
/-- (*scarp/txn.Manager).Last -/
def f_txn_Manager_Last (a0 : Option Addr) (w : World) (post : Int → World → Prop) : Prop :=
 (c_txn_Manager_gone a0 w fun (x1 : Bool) w2 =>
 (bsplit x1
 (post (0) w2)
 ((onP a0 fun p3 =>
 (∃ n4 : Int, (w2.cell? (p3.add 7) = some (.int .i64 n4)) ∧
 post (n4) w2)))))
theorem txn_Manager_Last_go {w : World} {a0 : Option Addr} {post : RT [.cell (.int .i64)] → World → Prop} (h : f_txn_Manager_Last a0 w post) : c_txn_Manager_Last a0 w post :=
 calls_of_vc tab_ok Tryz.func29 (by kernel_rfl) (Eq.mpr (by kernel_rfl) h)
/-- (*scarp/txn.Manager).Dump -/
def f_txn_Manager_Dump (a0 : Option Addr) (w : World) (post : SV → World → Prop) : Prop :=
 (c_txn_Manager_gone a0 w fun (x1 : Bool) w2 =>
 (bsplit x1
 (post (⟨none, 0, 0⟩) w2)
 ((onP a0 fun p3 =>
 (∃ q4 : Option Addr, (w2.cell? p3 = some (.pointer q4)) ∧
 (c_extmap_Map_Dump q4 w2 fun (x5 : SV) w6 =>
 post (⟨x5.a, x5.n, x5.c⟩) w6))))))
theorem txn_Manager_Dump_go {w : World} {a0 : Option Addr} {post : RT [.cell (.slice)] → World → Prop} (h : f_txn_Manager_Dump a0 w post) : c_txn_Manager_Dump a0 w post :=
 calls_of_vc tab_ok Tryz.func30 (by kernel_rfl) (Eq.mpr (by kernel_rfl) h)
/-- (*scarp/txn.Manager).ReadOnly -/
def f_txn_Manager_ReadOnly (a0 : Option Addr) (a1 : Bool) (w : World) (post : Unit → World → Prop) : Prop :=
 (c_txn_Manager_gone a0 w fun (x1 : Bool) w2 =>
 (bsplit (!x1)
 ((onP a0 fun p3 =>
 ((((∃ u, w2.cell? (p3.add 9) = some u) ∧ w2.frozen? (p3.add 9) = false)) ∧ (true = true) ∧
 (withW (w2.setCell (p3.add 9) (.bool a1)) fun w4 =>
 post () w4))))
 (post () w2)))
theorem txn_Manager_ReadOnly_go {w : World} {a0 : Option Addr} {a1 : Bool} {post : RT [] → World → Prop} (h : f_txn_Manager_ReadOnly a0 a1 w post) : c_txn_Manager_ReadOnly a0 a1 w post :=
 calls_of_vc tab_ok Tryz.func33 (by kernel_rfl) (Eq.mpr (by kernel_rfl) h)
/-- (*scarp/txn.Manager).Read -/
def f_txn_Manager_Read (a0 : Option Addr) (a1 : Int) (a2c0 : Int) (a2c1 : Int) (w : World) (post : (SV × Int) → World → Prop) : Prop :=
 (withW (w.alloc (.cells #[.int .i64 a2c0, .int .i64 a2c1] 56)) fun w1 =>
 (c_txn_Manager_open a0 a1 w1 fun (x2 : (Option Addr)) w3 =>
 (bsplit ((x2).isNone)
 (post (⟨none, 0, 0⟩, 5) w3)
 ((withW w3.drew fun w5 =>
 (∃ S4 : World → Prop, S4 w5 ∧
 (onP x2 fun p6 =>
 (∃ q7 : Option Addr, ((∀ w8, S4 w8 → w8.cell? (p6.add 5) = some (.pointer q7))) ∧
 (∃ g9 : Int × Int, ((∀ w10, S4 w10 → w10.cell? (⟨w.heap.size, 0, none⟩ : Addr) = some (.int .i64 g9.1) ∧ w10.cell? ((⟨w.heap.size, 0, none⟩ : Addr).add 1) = some (.int .i64 g9.2))) ∧
 (c_rset_View_Read q7 g9.1 g9.2 w5 fun (x11 : SV × Int) w12 =>
 (S4 w12 ∧
 post (⟨x11.1.a, x11.1.n, x11.1.c⟩, x11.2) w12)))))))))))
theorem txn_Manager_Read_go {w : World} {a0 : Option Addr} {a1 : Int} {a2c0 : Int} {a2c1 : Int} {post : RT [.cell (.slice), .cell (.int .i64)] → World → Prop} (h : f_txn_Manager_Read a0 a1 a2c0 a2c1 w post) : c_txn_Manager_Read a0 a1 a2c0 a2c1 w post :=
 calls_of_vc tab_ok Tryz.func34 (by kernel_rfl) (Eq.mpr (by kernel_rfl) h)
/-- scarp/scarpalike.Bytes; loop over (t4 : Bool, i : Int) -/
def f_scarpalike_Bytes (a0 : SV) (a1 : SV) (w : World) (post : Bool → World → Prop) : Prop :=
 (bsplit (!decide ((((a0.n : Nat) : Int) : Int) = ((a1.n : Nat) : Int)))
 (post (false) w)
 ((loopR (α := Bool × Int) (false, 0) w fun x1 w2 next3 =>
 (bsplit (decide ((x1.2 : Int) < ((a0.n : Nat) : Int)))
 ((withW w2.drew fun w4 =>
 (0 ≤ (x1.2 : Int) ∧ (x1.2 : Int) < ((a0.n : Nat) : Int) ∧
 (onP a0.a fun p5 =>
 (∃ n6 : Int, (w4.cell? (p5.add ((x1.2 : Int).toNat * 1)) = some (.int .u8 n6)) ∧
 (0 ≤ (x1.2 : Int) ∧ (x1.2 : Int) < ((a1.n : Nat) : Int) ∧
 (onP a1.a fun p7 =>
 (∃ n8 : Int, (w4.cell? (p7.add ((x1.2 : Int).toNat * 1)) = some (.int .u8 n8)) ∧
 (bsplit (!decide ((n6 : Int) = n8))
 (post (false) w4)
 (next3 (x1.1, (IntKind.i64.wrap (x1.2 + 1))) w4))))))))))
 (post (true) w2)))))
theorem scarpalike_Bytes_go {w : World} {a0 : SV} {a1 : SV} {post : RT [.cell (.bool)] → World → Prop} (h : f_scarpalike_Bytes a0 a1 w post) : c_scarpalike_Bytes a0 a1 w post :=
 calls_of_vc tab_ok Tryz.func35 (by kernel_rfl) (Eq.mpr (by kernel_rfl) h)
/-- scarp/scarpalike.Puts; loop over (n : Int, i : Int) -/
def f_scarpalike_Puts (a0 : SV) (a1 : Int) (w : World) (post : Int → World → Prop) : Prop :=
 (withW (w.alloc (.cells #[.int .i64 ((a0.n : Nat) : Int)] 3)) fun w1 =>
 (c_scarpalike_Sum 0 (⟨(some (⟨w.heap.size, 0, none⟩ : Addr)), 1, 1⟩) w1 fun (x2 : Int) w3 =>
 (loopR (α := Int × Int) (x2, 0) w3 fun x4 w5 next6 =>
 (bsplit (decide ((x4.2 : Int) < ((a0.n : Nat) : Int)))
 ((bsplit (decide ((x4.1 : Int) ≤ a1))
 ((0 ≤ (x4.2 : Int) ∧ (x4.2 : Int) < ((a0.n : Nat) : Int) ∧
 (onP a0.a fun p7 =>
 (∃ s8 : SV, (w5.cell? ((p7.add ((x4.2 : Int).toNat * 2)).add 1) = some (.slice s8.a s8.n s8.c)) ∧
 (withW (w5.alloc (.cells #[.int .i64 ((s8.n : Nat) : Int)] 3)) fun w9 =>
 (c_scarpalike_Sum x4.1 (⟨(some (⟨w5.heap.size, 0, none⟩ : Addr)), 1, 1⟩) w9 fun (x10 : Int) w11 =>
 next6 (x10, (IntKind.i64.wrap (x4.2 + 1))) w11))))))
 (post (x4.1) w5)))
 (post (x4.1) w5)))))
theorem scarpalike_Puts_go {w : World} {a0 : SV} {a1 : Int} {post : RT [.cell (.int .i64)] → World → Prop} (h : f_scarpalike_Puts a0 a1 w post) : c_scarpalike_Puts a0 a1 w post :=
 calls_of_vc tab_ok Tryz.func36 (by kernel_rfl) (Eq.mpr (by kernel_rfl) h)
/-- scarp/scarplaw23.small; loop over (n : Int, t2 : Bool, i : Int) -/
def f_scarplaw23_small (a0 : SV) (w : World) (post : Bool → World → Prop) : Prop :=
 (loopR (α := Int × Bool × Int) (0, false, 0) w fun x1 w2 next3 =>
 (bsplit (decide ((x1.2.2 : Int) < ((a0.n : Nat) : Int)))
 ((0 ≤ (x1.2.2 : Int) ∧ (x1.2.2 : Int) < ((a0.n : Nat) : Int) ∧
 (onP a0.a fun p4 =>
 (∃ s5 : SV, (w2.cell? ((p4.add ((x1.2.2 : Int).toNat * 6)).add 4) = some (.slice s5.a s5.n s5.c)) ∧
 (c_scarpalike_Puts s5 30000 w2 fun (x6 : Int) w7 =>
 (withW (w7.alloc (.cells #[.int .i64 x6, .int .i64 3] 3)) fun w8 =>
 (c_scarpalike_Sum x1.1 (⟨(some (⟨w7.heap.size, 0, none⟩ : Addr)), 2, 2⟩) w8 fun (x9 : Int) w10 =>
 (bsplit (decide ((30000 : Int) < x9))
 (post (false) w10)
 ((withI (IntKind.i64.wrap (x1.2.2 + 1)) fun i11 =>
 next3 (x9, x1.2.1, i11) w10))))))))))
 (post ((decide ((((a0.n : Nat) : Int) : Int) ≤ 150))) w2)))
theorem scarplaw23_small_go {w : World} {a0 : SV} {post : RT [.cell (.bool)] → World → Prop} (h : f_scarplaw23_small a0 w post) : c_scarplaw23_small a0 w post :=
 calls_of_vc tab_ok Tryz.func38 (by kernel_rfl) (Eq.mpr (by kernel_rfl) h)
/-- (*scarp/txn.Manager).Prune -/
def f_txn_Manager_Prune (a0 : Option Addr) (w : World) (post : Int → World → Prop) : Prop :=
 (c_txn_Manager_gone a0 w fun (x1 : Bool) w2 =>
 (bsplit x1
 (post (0) w2)
 ((withW w2.drew fun w4 =>
 (∃ S3 : World → Prop, S3 w4 ∧
 (onP a0 fun p5 =>
 (∃ q6 : Option Addr, ((∀ w7, S3 w7 → w7.cell? p5 = some (.pointer q6))) ∧
 (onP a0 fun p8 =>
 (∃ q9 : Option Addr, ((∀ w10, S3 w10 → w10.cell? (p8.add 1) = some (.pointer q9))) ∧
 (onP a0 fun p11 =>
 (∃ n12 : Int, ((∀ w13, S3 w13 → w13.cell? (p11.add 7) = some (.int .i64 n12))) ∧
 (c_horizon_Book_Low q9 n12 w4 fun (x14 : Int) w15 =>
 (S3 w15 ∧
 (c_extmap_Map_Prune q6 x14 w15 fun (x16 : Int) w17 =>
 (S3 w17 ∧
 post (x16) w17)))))))))))))))
theorem txn_Manager_Prune_go {w : World} {a0 : Option Addr} {post : RT [.cell (.int .i64)] → World → Prop} (h : f_txn_Manager_Prune a0 w post) : c_txn_Manager_Prune a0 w post :=
 calls_of_vc tab_ok Tryz.func39 (by kernel_rfl) (Eq.mpr (by kernel_rfl) h)
/-- (*scarp/txn.Manager).History -/
def f_txn_Manager_History (a0 : Option Addr) (a1 : Int) (w : World) (post : ((Int × Int × Int × Int × Int × SV × SV)) → World → Prop) : Prop :=
 (withW (w.alloc (.cells #[.int .i64 0, .int .i64 0, .int .i64 0, .int .i64 0, .int .i64 0, .slice none 0 0, .slice none 0 0] 73)) fun w1 =>
 (c_txn_Manager_gone a0 w1 fun (x2 : Bool) w3 =>
 (bsplit x2
 (((((∃ u, w3.cell? (⟨w.heap.size, 0, none⟩ : Addr) = some u) ∧ w3.frozen? (⟨w.heap.size, 0, none⟩ : Addr) = false) ∧ ((∃ u, w3.cell? ((⟨w.heap.size, 0, none⟩ : Addr).add 1) = some u) ∧ w3.frozen? ((⟨w.heap.size, 0, none⟩ : Addr).add 1) = false) ∧ ((∃ u, w3.cell? ((⟨w.heap.size, 0, none⟩ : Addr).add 2) = some u) ∧ w3.frozen? ((⟨w.heap.size, 0, none⟩ : Addr).add 2) = false) ∧ ((∃ u, w3.cell? ((⟨w.heap.size, 0, none⟩ : Addr).add 3) = some u) ∧ w3.frozen? ((⟨w.heap.size, 0, none⟩ : Addr).add 3) = false) ∧ ((∃ u, w3.cell? ((⟨w.heap.size, 0, none⟩ : Addr).add 4) = some u) ∧ w3.frozen? ((⟨w.heap.size, 0, none⟩ : Addr).add 4) = false) ∧ ((∃ u, w3.cell? ((⟨w.heap.size, 0, none⟩ : Addr).add 5) = some u) ∧ w3.frozen? ((⟨w.heap.size, 0, none⟩ : Addr).add 5) = false) ∧ ((∃ u, w3.cell? ((⟨w.heap.size, 0, none⟩ : Addr).add 6) = some u) ∧ w3.frozen? ((⟨w.heap.size, 0, none⟩ : Addr).add 6) = false)) ∧ (true = true) ∧
 (withW (((((((w3.setCell (⟨w.heap.size, 0, none⟩ : Addr) (.int .i64 0)).setCell ((⟨w.heap.size, 0, none⟩ : Addr).add 1) (.int .i64 0)).setCell ((⟨w.heap.size, 0, none⟩ : Addr).add 2) (.int .i64 0)).setCell ((⟨w.heap.size, 0, none⟩ : Addr).add 3) (.int .i64 0)).setCell ((⟨w.heap.size, 0, none⟩ : Addr).add 4) (.int .i64 0)).setCell ((⟨w.heap.size, 0, none⟩ : Addr).add 5) (.slice none 0 0)).setCell ((⟨w.heap.size, 0, none⟩ : Addr).add 6) (.slice none 0 0)) fun w4 =>
 (∃ g5 : Int × Int × Int × Int × Int × SV × SV, (w4.cell? (⟨w.heap.size, 0, none⟩ : Addr) = some (.int .i64 g5.1) ∧ w4.cell? ((⟨w.heap.size, 0, none⟩ : Addr).add 1) = some (.int .i64 g5.2.1) ∧ w4.cell? ((⟨w.heap.size, 0, none⟩ : Addr).add 2) = some (.int .i64 g5.2.2.1) ∧ w4.cell? ((⟨w.heap.size, 0, none⟩ : Addr).add 3) = some (.int .i64 g5.2.2.2.1) ∧ w4.cell? ((⟨w.heap.size, 0, none⟩ : Addr).add 4) = some (.int .i64 g5.2.2.2.2.1) ∧ w4.cell? ((⟨w.heap.size, 0, none⟩ : Addr).add 5) = some (.slice g5.2.2.2.2.2.1.a g5.2.2.2.2.2.1.n g5.2.2.2.2.2.1.c) ∧ w4.cell? ((⟨w.heap.size, 0, none⟩ : Addr).add 6) = some (.slice g5.2.2.2.2.2.2.a g5.2.2.2.2.2.2.n g5.2.2.2.2.2.2.c)) ∧
 post ((g5.1, g5.2.1, g5.2.2.1, g5.2.2.2.1, g5.2.2.2.2.1, ⟨g5.2.2.2.2.2.1.a, g5.2.2.2.2.2.1.n, g5.2.2.2.2.2.1.c⟩, ⟨g5.2.2.2.2.2.2.a, g5.2.2.2.2.2.2.n, g5.2.2.2.2.2.2.c⟩)) w4))))
 ((onP a0 fun p6 =>
 (∃ r7 : Option Nat, (w3.cell? (p6.add 2) = some (.map r7)) ∧
 ((true = true) ∧ (onM r7 (((((∃ u, w3.cell? (⟨w.heap.size, 0, none⟩ : Addr) = some u) ∧ w3.frozen? (⟨w.heap.size, 0, none⟩ : Addr) = false) ∧ ((∃ u, w3.cell? ((⟨w.heap.size, 0, none⟩ : Addr).add 1) = some u) ∧ w3.frozen? ((⟨w.heap.size, 0, none⟩ : Addr).add 1) = false) ∧ ((∃ u, w3.cell? ((⟨w.heap.size, 0, none⟩ : Addr).add 2) = some u) ∧ w3.frozen? ((⟨w.heap.size, 0, none⟩ : Addr).add 2) = false) ∧ ((∃ u, w3.cell? ((⟨w.heap.size, 0, none⟩ : Addr).add 3) = some u) ∧ w3.frozen? ((⟨w.heap.size, 0, none⟩ : Addr).add 3) = false) ∧ ((∃ u, w3.cell? ((⟨w.heap.size, 0, none⟩ : Addr).add 4) = some u) ∧ w3.frozen? ((⟨w.heap.size, 0, none⟩ : Addr).add 4) = false) ∧ ((∃ u, w3.cell? ((⟨w.heap.size, 0, none⟩ : Addr).add 5) = some u) ∧ w3.frozen? ((⟨w.heap.size, 0, none⟩ : Addr).add 5) = false) ∧ ((∃ u, w3.cell? ((⟨w.heap.size, 0, none⟩ : Addr).add 6) = some u) ∧ w3.frozen? ((⟨w.heap.size, 0, none⟩ : Addr).add 6) = false)) ∧ (true = true) ∧
 (withW (((((((w3.setCell (⟨w.heap.size, 0, none⟩ : Addr) (.int .i64 0)).setCell ((⟨w.heap.size, 0, none⟩ : Addr).add 1) (.int .i64 0)).setCell ((⟨w.heap.size, 0, none⟩ : Addr).add 2) (.int .i64 0)).setCell ((⟨w.heap.size, 0, none⟩ : Addr).add 3) (.int .i64 0)).setCell ((⟨w.heap.size, 0, none⟩ : Addr).add 4) (.int .i64 0)).setCell ((⟨w.heap.size, 0, none⟩ : Addr).add 5) (.slice none 0 0)).setCell ((⟨w.heap.size, 0, none⟩ : Addr).add 6) (.slice none 0 0)) fun w9 =>
 (∃ g10 : Int × Int × Int × Int × Int × SV × SV, (w9.cell? (⟨w.heap.size, 0, none⟩ : Addr) = some (.int .i64 g10.1) ∧ w9.cell? ((⟨w.heap.size, 0, none⟩ : Addr).add 1) = some (.int .i64 g10.2.1) ∧ w9.cell? ((⟨w.heap.size, 0, none⟩ : Addr).add 2) = some (.int .i64 g10.2.2.1) ∧ w9.cell? ((⟨w.heap.size, 0, none⟩ : Addr).add 3) = some (.int .i64 g10.2.2.2.1) ∧ w9.cell? ((⟨w.heap.size, 0, none⟩ : Addr).add 4) = some (.int .i64 g10.2.2.2.2.1) ∧ w9.cell? ((⟨w.heap.size, 0, none⟩ : Addr).add 5) = some (.slice g10.2.2.2.2.2.1.a g10.2.2.2.2.2.1.n g10.2.2.2.2.2.1.c) ∧ w9.cell? ((⟨w.heap.size, 0, none⟩ : Addr).add 6) = some (.slice g10.2.2.2.2.2.2.a g10.2.2.2.2.2.2.n g10.2.2.2.2.2.2.c)) ∧
 post ((g10.1, g10.2.1, g10.2.2.1, g10.2.2.2.1, g10.2.2.2.2.1, ⟨g10.2.2.2.2.2.1.a, g10.2.2.2.2.2.1.n, g10.2.2.2.2.2.1.c⟩, ⟨g10.2.2.2.2.2.2.a, g10.2.2.2.2.2.2.n, g10.2.2.2.2.2.2.c⟩)) w9)))) fun m8 =>
 (∃ es11 : List En, (∃ cl12, mapAt w3 m8 .i64 es11 cl12) ∧ ∃ x13 : Option Addr, (findE es11 a1).getD (.pointer none) = .pointer x13 ∧
 (bsplit (!(findE es11 a1).isSome)
 (((((∃ u, w3.cell? (⟨w.heap.size, 0, none⟩ : Addr) = some u) ∧ w3.frozen? (⟨w.heap.size, 0, none⟩ : Addr) = false) ∧ ((∃ u, w3.cell? ((⟨w.heap.size, 0, none⟩ : Addr).add 1) = some u) ∧ w3.frozen? ((⟨w.heap.size, 0, none⟩ : Addr).add 1) = false) ∧ ((∃ u, w3.cell? ((⟨w.heap.size, 0, none⟩ : Addr).add 2) = some u) ∧ w3.frozen? ((⟨w.heap.size, 0, none⟩ : Addr).add 2) = false) ∧ ((∃ u, w3.cell? ((⟨w.heap.size, 0, none⟩ : Addr).add 3) = some u) ∧ w3.frozen? ((⟨w.heap.size, 0, none⟩ : Addr).add 3) = false) ∧ ((∃ u, w3.cell? ((⟨w.heap.size, 0, none⟩ : Addr).add 4) = some u) ∧ w3.frozen? ((⟨w.heap.size, 0, none⟩ : Addr).add 4) = false) ∧ ((∃ u, w3.cell? ((⟨w.heap.size, 0, none⟩ : Addr).add 5) = some u) ∧ w3.frozen? ((⟨w.heap.size, 0, none⟩ : Addr).add 5) = false) ∧ ((∃ u, w3.cell? ((⟨w.heap.size, 0, none⟩ : Addr).add 6) = some u) ∧ w3.frozen? ((⟨w.heap.size, 0, none⟩ : Addr).add 6) = false)) ∧ (true = true) ∧
 (withW (((((((w3.setCell (⟨w.heap.size, 0, none⟩ : Addr) (.int .i64 0)).setCell ((⟨w.heap.size, 0, none⟩ : Addr).add 1) (.int .i64 0)).setCell ((⟨w.heap.size, 0, none⟩ : Addr).add 2) (.int .i64 0)).setCell ((⟨w.heap.size, 0, none⟩ : Addr).add 3) (.int .i64 0)).setCell ((⟨w.heap.size, 0, none⟩ : Addr).add 4) (.int .i64 0)).setCell ((⟨w.heap.size, 0, none⟩ : Addr).add 5) (.slice none 0 0)).setCell ((⟨w.heap.size, 0, none⟩ : Addr).add 6) (.slice none 0 0)) fun w14 =>
 (∃ g15 : Int × Int × Int × Int × Int × SV × SV, (w14.cell? (⟨w.heap.size, 0, none⟩ : Addr) = some (.int .i64 g15.1) ∧ w14.cell? ((⟨w.heap.size, 0, none⟩ : Addr).add 1) = some (.int .i64 g15.2.1) ∧ w14.cell? ((⟨w.heap.size, 0, none⟩ : Addr).add 2) = some (.int .i64 g15.2.2.1) ∧ w14.cell? ((⟨w.heap.size, 0, none⟩ : Addr).add 3) = some (.int .i64 g15.2.2.2.1) ∧ w14.cell? ((⟨w.heap.size, 0, none⟩ : Addr).add 4) = some (.int .i64 g15.2.2.2.2.1) ∧ w14.cell? ((⟨w.heap.size, 0, none⟩ : Addr).add 5) = some (.slice g15.2.2.2.2.2.1.a g15.2.2.2.2.2.1.n g15.2.2.2.2.2.1.c) ∧ w14.cell? ((⟨w.heap.size, 0, none⟩ : Addr).add 6) = some (.slice g15.2.2.2.2.2.2.a g15.2.2.2.2.2.2.n g15.2.2.2.2.2.2.c)) ∧
 post ((g15.1, g15.2.1, g15.2.2.1, g15.2.2.2.1, g15.2.2.2.2.1, ⟨g15.2.2.2.2.2.1.a, g15.2.2.2.2.2.1.n, g15.2.2.2.2.2.1.c⟩, ⟨g15.2.2.2.2.2.2.a, g15.2.2.2.2.2.2.n, g15.2.2.2.2.2.2.c⟩)) w14))))
 ((withW w3.drew fun w17 =>
 (∃ S16 : World → Prop, S16 w17 ∧
 (onP x13 fun p18 =>
 (∃ n19 : Int, ((∀ w20, S16 w20 → w20.cell? p18 = some (.int .i64 n19))) ∧
 (onP x13 fun p21 =>
 (∃ n22 : Int, ((∀ w23, S16 w23 → w23.cell? (p21.add 3) = some (.int .i64 n22))) ∧
 (onP x13 fun p24 =>
 (∃ n25 : Int, ((∀ w26, S16 w26 → w26.cell? (p24.add 1) = some (.int .i64 n25))) ∧
 (onP x13 fun p27 =>
 (∃ q28 : Option Addr, ((∀ w29, S16 w29 → w29.cell? (p27.add 5) = some (.pointer q28))) ∧
 (onP x13 fun p30 =>
 (∃ q31 : Option Addr, ((∀ w32, S16 w32 → w32.cell? (p30.add 4) = some (.pointer q31))) ∧
 (c_rset_View_Reads q28 w17 fun (x33 : SV) w34 =>
 (S16 w34 ∧
 (c_wbuf_Buf_Puts q31 w34 fun (x35 : SV) w36 =>
 (S16 w36 ∧
 ((((∃ u, w36.cell? (⟨w.heap.size, 0, none⟩ : Addr) = some u) ∧ w36.frozen? (⟨w.heap.size, 0, none⟩ : Addr) = false) ∧ ((∃ u, w36.cell? ((⟨w.heap.size, 0, none⟩ : Addr).add 1) = some u) ∧ w36.frozen? ((⟨w.heap.size, 0, none⟩ : Addr).add 1) = false) ∧ ((∃ u, w36.cell? ((⟨w.heap.size, 0, none⟩ : Addr).add 2) = some u) ∧ w36.frozen? ((⟨w.heap.size, 0, none⟩ : Addr).add 2) = false) ∧ ((∃ u, w36.cell? ((⟨w.heap.size, 0, none⟩ : Addr).add 3) = some u) ∧ w36.frozen? ((⟨w.heap.size, 0, none⟩ : Addr).add 3) = false) ∧ ((∃ u, w36.cell? ((⟨w.heap.size, 0, none⟩ : Addr).add 4) = some u) ∧ w36.frozen? ((⟨w.heap.size, 0, none⟩ : Addr).add 4) = false) ∧ ((∃ u, w36.cell? ((⟨w.heap.size, 0, none⟩ : Addr).add 5) = some u) ∧ w36.frozen? ((⟨w.heap.size, 0, none⟩ : Addr).add 5) = false) ∧ ((∃ u, w36.cell? ((⟨w.heap.size, 0, none⟩ : Addr).add 6) = some u) ∧ w36.frozen? ((⟨w.heap.size, 0, none⟩ : Addr).add 6) = false)) ∧ (true = true) ∧
 (withW (((((((w36.setCell (⟨w.heap.size, 0, none⟩ : Addr) (.int .i64 n19)).setCell ((⟨w.heap.size, 0, none⟩ : Addr).add 1) (.int .i64 n22)).setCell ((⟨w.heap.size, 0, none⟩ : Addr).add 2) (.int .i64 n25)).setCell ((⟨w.heap.size, 0, none⟩ : Addr).add 3) (.int .i64 0)).setCell ((⟨w.heap.size, 0, none⟩ : Addr).add 4) (.int .i64 0)).setCell ((⟨w.heap.size, 0, none⟩ : Addr).add 5) (.slice x33.a x33.n x33.c)).setCell ((⟨w.heap.size, 0, none⟩ : Addr).add 6) (.slice x35.a x35.n x35.c)) fun w37 =>
 (∃ g38 : Int × Int × Int × Int × Int × SV × SV, (w37.cell? (⟨w.heap.size, 0, none⟩ : Addr) = some (.int .i64 g38.1) ∧ w37.cell? ((⟨w.heap.size, 0, none⟩ : Addr).add 1) = some (.int .i64 g38.2.1) ∧ w37.cell? ((⟨w.heap.size, 0, none⟩ : Addr).add 2) = some (.int .i64 g38.2.2.1) ∧ w37.cell? ((⟨w.heap.size, 0, none⟩ : Addr).add 3) = some (.int .i64 g38.2.2.2.1) ∧ w37.cell? ((⟨w.heap.size, 0, none⟩ : Addr).add 4) = some (.int .i64 g38.2.2.2.2.1) ∧ w37.cell? ((⟨w.heap.size, 0, none⟩ : Addr).add 5) = some (.slice g38.2.2.2.2.2.1.a g38.2.2.2.2.2.1.n g38.2.2.2.2.2.1.c) ∧ w37.cell? ((⟨w.heap.size, 0, none⟩ : Addr).add 6) = some (.slice g38.2.2.2.2.2.2.a g38.2.2.2.2.2.2.n g38.2.2.2.2.2.2.c)) ∧
 post ((g38.1, g38.2.1, g38.2.2.1, g38.2.2.2.1, g38.2.2.2.2.1, ⟨g38.2.2.2.2.2.1.a, g38.2.2.2.2.2.1.n, g38.2.2.2.2.2.1.c⟩, ⟨g38.2.2.2.2.2.2.a, g38.2.2.2.2.2.2.n, g38.2.2.2.2.2.2.c⟩)) w37))))))))))))))))))))))))))))))
theorem txn_Manager_History_go {w : World} {a0 : Option Addr} {a1 : Int} {post : RT [.agg [.int .i64, .int .i64, .int .i64, .int .i64, .int .i64, .slice, .slice]] → World → Prop} (h : f_txn_Manager_History a0 a1 w post) : c_txn_Manager_History a0 a1 w post :=
 calls_of_vc tab_ok Tryz.func40 (by kernel_rfl) (Eq.mpr (by kernel_rfl) h)
/-- scarp/extmap.New -/
def f_extmap_New (a0 : Int) (w : World) (post : ((Option Addr) × Int) → World → Prop) : Prop :=
 (bsplit (decide ((a0 : Int) < 1))
 (post (none, 1) w)
 ((bsplit (decide ((1048576 : Int) < a0))
 (post (none, 1) w)
 ((withW (w.alloc (.map #[] 0)) fun w1 =>
 (withW (w1.alloc (.cells #[.int .i64 a0, .map (some w.heap.size), .int .i64 0] 164)) fun w2 =>
 post ((some (⟨w1.heap.size, 0, none⟩ : Addr)), 0) w2))))))
theorem extmap_New_go {w : World} {a0 : Int} {post : RT [.cell (.ptr), .cell (.int .i64)] → World → Prop} (h : f_extmap_New a0 w post) : c_extmap_New a0 w post :=
 calls_of_vc tab_ok Tryz.func53 (by kernel_rfl) (Eq.mpr (by kernel_rfl) h)
/-- scarp/horizon.New -/
def f_horizon_New (a0 : Int) (w : World) (post : ((Option Addr)) → World → Prop) : Prop :=
 (withW (w.alloc (.map #[] 0)) fun w1 =>
 (withW (w1.alloc (.cells #[.int .i64 a0, .int .i64 0, .map (some w.heap.size)] 167)) fun w2 =>
 post ((some (⟨w1.heap.size, 0, none⟩ : Addr))) w2))
theorem horizon_New_go {w : World} {a0 : Int} {post : RT [.cell (.ptr)] → World → Prop} (h : f_horizon_New a0 w post) : c_horizon_New a0 w post :=
 calls_of_vc tab_ok Tryz.func54 (by kernel_rfl) (Eq.mpr (by kernel_rfl) h)
/-- (*scarp/txn.Manager).gone -/
def f_txn_Manager_gone (a0 : Option Addr) (w : World) (post : Bool → World → Prop) : Prop :=
 (bsplit ((a0).isNone)
 (post (true) w)
 ((onP a0 fun p1 =>
 (∃ q2 : Option Addr, (w.cell? p1 = some (.pointer q2)) ∧
 post ((q2).isNone) w))))
theorem txn_Manager_gone_go {w : World} {a0 : Option Addr} {post : RT [.cell (.bool)] → World → Prop} (h : f_txn_Manager_gone a0 w post) : c_txn_Manager_gone a0 w post :=
 calls_of_vc tab_ok Tryz.func55 (by kernel_rfl) (Eq.mpr (by kernel_rfl) h)
/-- (*scarp/horizon.Book).Open -/
def f_horizon_Book_Open (a0 : Option Addr) (a1 : Int) (w : World) (post : (Int × Int) → World → Prop) : Prop :=
 (bsplit (decide ((a1 : Int) < 0))
 (post (0, 1) w)
 ((bsplit (decide ((1099511627776 : Int) < a1))
 (post (0, 1) w)
 ((c_horizon_Book_Count a0 w fun (x1 : Int) w2 =>
 (c_horizon_Book_room a0 w2 fun (x3 : Int) w4 =>
 (bsplit (decide ((x3 : Int) ≤ x1))
 (post (0, 6) w4)
 ((onP a0 fun p5 =>
 (∃ n6 : Int, (w4.cell? (p5.add 1) = some (.int .i64 n6)) ∧
 (onP a0 fun p7 =>
 ((((∃ u, w4.cell? (p7.add 1) = some u) ∧ w4.frozen? (p7.add 1) = false)) ∧ (true = true) ∧
 (withW (w4.setCell (p7.add 1) (.int .i64 (IntKind.i64.wrap (n6 + 1)))) fun w8 =>
 (withW w8.drew fun w10 =>
 (∃ S9 : World → Prop, S9 w10 ∧
 (onP a0 fun p11 =>
 (∃ r12 : Option Nat, ((∀ w13, S9 w13 → w13.cell? (p11.add 2) = some (.map r12))) ∧
 (onP a0 fun p14 =>
 (∃ n15 : Int, ((∀ w16, S9 w16 → w16.cell? (p14.add 1) = some (.int .i64 n15))) ∧
 ((true = true) ∧ (onM r12 (False) fun m17 =>
 (∃ (es18 : List En) (cl19 : Nat), mapAt w10 m17 .i64 es18 cl19 ∧
 (withW (World.setObj w10 m17 (.map (entries .i64 (putM es18 cl19 n15 (.int .i64 a1))) (putClock es18 cl19 n15))) fun w20 =>
 (onP a0 fun p21 =>
 (∃ n22 : Int, (w20.cell? (p21.add 1) = some (.int .i64 n22)) ∧
 post (n22, 0) w20)))))))))))))))))))))))))
theorem horizon_Book_Open_go {w : World} {a0 : Option Addr} {a1 : Int} {post : RT [.cell (.int .i64), .cell (.int .i64)] → World → Prop} (h : f_horizon_Book_Open a0 a1 w post) : c_horizon_Book_Open a0 a1 w post :=
 calls_of_vc tab_ok Tryz.func56 (by kernel_rfl) (Eq.mpr (by kernel_rfl) h)
/-- scarp/wbuf.New -/
def f_wbuf_New (a0 : Int) (a1 : Int) (w : World) (post : ((Option Addr) × Int) → World → Prop) : Prop :=
 (bsplit (decide ((a0 : Int) < 1))
 (post (none, 1) w)
 ((bsplit (decide ((1048576 : Int) < a0))
 (post (none, 1) w)
 ((bsplit (decide ((a1 : Int) < 0))
 (post (none, 1) w)
 ((withW (w.alloc (.map #[] 0)) fun w1 =>
 (withW (w1.alloc (.cells #[.int .i64 a0, .int .i64 a1, .map (some w.heap.size)] 170)) fun w2 =>
 post ((some (⟨w1.heap.size, 0, none⟩ : Addr)), 0) w2))))))))
theorem wbuf_New_go {w : World} {a0 : Int} {a1 : Int} {post : RT [.cell (.ptr), .cell (.int .i64)] → World → Prop} (h : f_wbuf_New a0 a1 w post) : c_wbuf_New a0 a1 w post :=
 calls_of_vc tab_ok Tryz.func57 (by kernel_rfl) (Eq.mpr (by kernel_rfl) h)
/-- (*scarp/extmap.Map).Blocks -/
def f_extmap_Map_Blocks (a0 : Option Addr) (w : World) (post : Int → World → Prop) : Prop :=
 (bsplit ((a0).isNone)
 (post (0) w)
 ((onP a0 fun p1 =>
 (∃ n2 : Int, (w.cell? p1 = some (.int .i64 n2)) ∧
 post (n2) w))))
theorem extmap_Map_Blocks_go {w : World} {a0 : Option Addr} {post : RT [.cell (.int .i64)] → World → Prop} (h : f_extmap_Map_Blocks a0 w post) : c_extmap_Map_Blocks a0 w post :=
 calls_of_vc tab_ok Tryz.func58 (by kernel_rfl) (Eq.mpr (by kernel_rfl) h)
/-- scarp/rset.New -/
def f_rset_New (a0 : Option Addr) (a1 : Option Addr) (a2 : Int) (w : World) (post : ((Option Addr)) → World → Prop) : Prop :=
 (bsplit ((a0).isNone)
 (post (none) w)
 ((bsplit ((a1).isNone)
 (post (none) w)
 ((c_ival_New 64 w fun (x1 : (Option Addr)) w2 =>
 (withW (w2.alloc (.cells #[.pointer a0, .pointer a1, .int .i64 a2, .pointer x1, .slice none 0 0] 174)) fun w3 =>
 post ((some (⟨w2.heap.size, 0, none⟩ : Addr))) w3))))))
theorem rset_New_go {w : World} {a0 : Option Addr} {a1 : Option Addr} {a2 : Int} {post : RT [.cell (.ptr)] → World → Prop} (h : f_rset_New a0 a1 a2 w post) : c_rset_New a0 a1 a2 w post :=
 calls_of_vc tab_ok Tryz.func59 (by kernel_rfl) (Eq.mpr (by kernel_rfl) h)
/-- (*scarp/txn.Manager).open -/
def f_txn_Manager_open (a0 : Option Addr) (a1 : Int) (w : World) (post : ((Option Addr)) → World → Prop) : Prop :=
 (c_txn_Manager_gone a0 w fun (x1 : Bool) w2 =>
 (bsplit x1
 (post (none) w2)
 ((onP a0 fun p3 =>
 (∃ r4 : Option Nat, (w2.cell? (p3.add 2) = some (.map r4)) ∧
 ((true = true) ∧ (onM r4 (post (none) w2) fun m5 =>
 (∃ es6 : List En, (∃ cl7, mapAt w2 m5 .i64 es6 cl7) ∧ ∃ x8 : Option Addr, (findE es6 a1).getD (.pointer none) = .pointer x8 ∧
 (bsplit (!(findE es6 a1).isSome)
 (post (none) w2)
 ((onP x8 fun p9 =>
 (∃ n10 : Int, (w2.cell? p9 = some (.int .i64 n10)) ∧
 (bsplit (!decide ((n10 : Int) = 1))
 (post (none) w2)
 (post (x8) w2))))))))))))))
theorem txn_Manager_open_go {w : World} {a0 : Option Addr} {a1 : Int} {post : RT [.cell (.ptr)] → World → Prop} (h : f_txn_Manager_open a0 a1 w post) : c_txn_Manager_open a0 a1 w post :=
 calls_of_vc tab_ok Tryz.func60 (by kernel_rfl) (Eq.mpr (by kernel_rfl) h)
/-- (*scarp/wbuf.Buf).Write; loop over (t5 : Int, t37 : Int); loop over (t64 : Int); loop over (t5 : Int, t37 : Int); loop over (t64 : Int) -/
def f_wbuf_Buf_Write (a0 : Option Addr) (a1 : SV) (w : World) (post : Int → World → Prop) : Prop :=
 (withW (w.alloc (.cells #[.pointer a0] 108)) fun w1 =>
 (bsplit (decide ((((a1.n : Nat) : Int) : Int) = 0))
 (post (1) w1)
 ((∃ q2 : Option Addr, (w1.cell? (⟨w.heap.size, 0, none⟩ : Addr) = some (.pointer q2)) ∧
 (bsplit ((q2).isNone)
 (post (2) w1)
 ((c_slices_ContainsFunc_api_Put_api_Put_at_wbuf_Buf_Write_1 a1 (some (⟨w.heap.size, 0, none⟩ : Addr)) w1 fun (x3 : Bool) w4 =>
 (bsplit x3
 (post (2) w4)
 ((c_slices_ContainsFunc_api_Put_api_Put_at_wbuf_Buf_Write_2 a1 w4 fun (x5 : Bool) w6 =>
 (bsplit x5
 (post (3) w6)
 ((c_wbuf_twice a1 w6 fun (x7 : Bool) w8 =>
 (bsplit x7
 (post (4) w8)
 ((∃ q9 : Option Addr, (w8.cell? (⟨w.heap.size, 0, none⟩ : Addr) = some (.pointer q9)) ∧
 (onP q9 fun p10 =>
 (∃ r11 : Option Nat, (w8.cell? (p10.add 2) = some (.map r11)) ∧
 (onM r11 ((loopR (α := Int × Int) (0, 0) w8 fun x13 w14 next15 =>
 (bsplit (decide ((x13.2 : Int) < ((a1.n : Nat) : Int)))
 ((0 ≤ (x13.2 : Int) ∧ (x13.2 : Int) < ((a1.n : Nat) : Int) ∧
 (onP a1.a fun p16 =>
 (∃ g17 : Int × SV, (w14.cell? (p16.add ((x13.2 : Int).toNat * 2)) = some (.int .i64 g17.1) ∧ w14.cell? ((p16.add ((x13.2 : Int).toNat * 2)).add 1) = some (.slice g17.2.a g17.2.n g17.2.c)) ∧
 (withW (w14.alloc (.cells #[.int .i64 0, .slice none 0 0] 33)) fun w18 =>
 ((((∃ u, w18.cell? (⟨w14.heap.size, 0, none⟩ : Addr) = some u) ∧ w18.frozen? (⟨w14.heap.size, 0, none⟩ : Addr) = false) ∧ ((∃ u, w18.cell? ((⟨w14.heap.size, 0, none⟩ : Addr).add 1) = some u) ∧ w18.frozen? ((⟨w14.heap.size, 0, none⟩ : Addr).add 1) = false)) ∧ (true = true) ∧
 (withW ((w18.setCell (⟨w14.heap.size, 0, none⟩ : Addr) (.int .i64 g17.1)).setCell ((⟨w14.heap.size, 0, none⟩ : Addr).add 1) (.slice g17.2.a g17.2.n g17.2.c)) fun w19 =>
 (withW w19.drew fun w20 =>
 (∃ q21 : Option Addr, (w20.cell? (⟨w.heap.size, 0, none⟩ : Addr) = some (.pointer q21)) ∧
 (onP q21 fun p22 =>
 (∃ r23 : Option Nat, (w20.cell? (p22.add 2) = some (.map r23)) ∧
 (∃ n24 : Int, (w20.cell? (⟨w14.heap.size, 0, none⟩ : Addr) = some (.int .i64 n24)) ∧
 ((true = true) ∧ (onM r23 (next15 ((IntKind.i64.wrap (x13.1 + 1)), (IntKind.i64.wrap (x13.2 + 1))) w20) fun m25 =>
 (∃ es26 : List En, (∃ cl27, mapAt w20 m25 .i64 es26 cl27) ∧ ∃ x28 : SV, (findE es26 n24).getD (.slice none 0 0) = .slice x28.a x28.n x28.c ∧
 (bsplit (!(findE es26 n24).isSome)
 (next15 ((IntKind.i64.wrap (x13.1 + 1)), (IntKind.i64.wrap (x13.2 + 1))) w20)
 (next15 (x13.1, (IntKind.i64.wrap (x13.2 + 1))) w20)))))))))))))))))
 ((∃ q29 : Option Addr, (w14.cell? (⟨w.heap.size, 0, none⟩ : Addr) = some (.pointer q29)) ∧
 (onP q29 fun p30 =>
 (∃ n31 : Int, (w14.cell? (p30.add 1) = some (.int .i64 n31)) ∧
 (bsplit (decide ((n31 : Int) < x13.1))
 (post (7) w14)
 ((loopR (α := Int) (0) w14 fun x32 w33 next34 =>
 (bsplit (decide ((x32 : Int) < ((a1.n : Nat) : Int)))
 ((0 ≤ (x32 : Int) ∧ (x32 : Int) < ((a1.n : Nat) : Int) ∧
 (onP a1.a fun p35 =>
 (∃ g36 : Int × SV, (w33.cell? (p35.add ((x32 : Int).toNat * 2)) = some (.int .i64 g36.1) ∧ w33.cell? ((p35.add ((x32 : Int).toNat * 2)).add 1) = some (.slice g36.2.a g36.2.n g36.2.c)) ∧
 (withW (w33.alloc (.cells #[.int .i64 0, .slice none 0 0] 33)) fun w37 =>
 ((((∃ u, w37.cell? (⟨w33.heap.size, 0, none⟩ : Addr) = some u) ∧ w37.frozen? (⟨w33.heap.size, 0, none⟩ : Addr) = false) ∧ ((∃ u, w37.cell? ((⟨w33.heap.size, 0, none⟩ : Addr).add 1) = some u) ∧ w37.frozen? ((⟨w33.heap.size, 0, none⟩ : Addr).add 1) = false)) ∧ (true = true) ∧
 (withW ((w37.setCell (⟨w33.heap.size, 0, none⟩ : Addr) (.int .i64 g36.1)).setCell ((⟨w33.heap.size, 0, none⟩ : Addr).add 1) (.slice g36.2.a g36.2.n g36.2.c)) fun w38 =>
 (withW w38.drew fun w40 =>
 (∃ S39 : World → Prop, S39 w40 ∧
 (∃ q41 : Option Addr, ((∀ w42, S39 w42 → w42.cell? (⟨w.heap.size, 0, none⟩ : Addr) = some (.pointer q41))) ∧
 (onP q41 fun p43 =>
 (∃ r44 : Option Nat, ((∀ w45, S39 w45 → w45.cell? (p43.add 2) = some (.map r44))) ∧
 (∃ n46 : Int, ((∀ w47, S39 w47 → w47.cell? (⟨w33.heap.size, 0, none⟩ : Addr) = some (.int .i64 n46))) ∧
 (∃ s48 : SV, ((∀ w49, S39 w49 → w49.cell? ((⟨w33.heap.size, 0, none⟩ : Addr).add 1) = some (.slice s48.a s48.n s48.c))) ∧
 (c_slices_Clone_byte_byte s48 w40 fun (x50 : SV) w51 =>
 (S39 w51 ∧
 ((true = true) ∧ (onM r44 (False) fun m52 =>
 (∃ (es53 : List En) (cl54 : Nat), mapAt w51 m52 .i64 es53 cl54 ∧
 (withW (World.setObj w51 m52 (.map (entries .i64 (putM es53 cl54 n46 (.slice x50.a x50.n x50.c))) (putClock es53 cl54 n46))) fun w55 =>
 next34 ((IntKind.i64.wrap (x32 + 1))) w55))))))))))))))))))))
 (post (0) w33)))))))))))) fun m12 =>
 (∃ es56 : List En, (∃ cl57, mapAt w8 m12 .i64 es56 cl57) ∧
 (loopR (α := Int × Int) (((es56.length : Nat) : Int), 0) w8 fun x58 w59 next60 =>
 (bsplit (decide ((x58.2 : Int) < ((a1.n : Nat) : Int)))
 ((0 ≤ (x58.2 : Int) ∧ (x58.2 : Int) < ((a1.n : Nat) : Int) ∧
 (onP a1.a fun p61 =>
 (∃ g62 : Int × SV, (w59.cell? (p61.add ((x58.2 : Int).toNat * 2)) = some (.int .i64 g62.1) ∧ w59.cell? ((p61.add ((x58.2 : Int).toNat * 2)).add 1) = some (.slice g62.2.a g62.2.n g62.2.c)) ∧
 (withW (w59.alloc (.cells #[.int .i64 0, .slice none 0 0] 33)) fun w63 =>
 ((((∃ u, w63.cell? (⟨w59.heap.size, 0, none⟩ : Addr) = some u) ∧ w63.frozen? (⟨w59.heap.size, 0, none⟩ : Addr) = false) ∧ ((∃ u, w63.cell? ((⟨w59.heap.size, 0, none⟩ : Addr).add 1) = some u) ∧ w63.frozen? ((⟨w59.heap.size, 0, none⟩ : Addr).add 1) = false)) ∧ (true = true) ∧
 (withW ((w63.setCell (⟨w59.heap.size, 0, none⟩ : Addr) (.int .i64 g62.1)).setCell ((⟨w59.heap.size, 0, none⟩ : Addr).add 1) (.slice g62.2.a g62.2.n g62.2.c)) fun w64 =>
 (withW w64.drew fun w65 =>
 (∃ q66 : Option Addr, (w65.cell? (⟨w.heap.size, 0, none⟩ : Addr) = some (.pointer q66)) ∧
 (onP q66 fun p67 =>
 (∃ r68 : Option Nat, (w65.cell? (p67.add 2) = some (.map r68)) ∧
 (∃ n69 : Int, (w65.cell? (⟨w59.heap.size, 0, none⟩ : Addr) = some (.int .i64 n69)) ∧
 ((true = true) ∧ (onM r68 (next60 ((IntKind.i64.wrap (x58.1 + 1)), (IntKind.i64.wrap (x58.2 + 1))) w65) fun m70 =>
 (∃ es71 : List En, (∃ cl72, mapAt w65 m70 .i64 es71 cl72) ∧ ∃ x73 : SV, (findE es71 n69).getD (.slice none 0 0) = .slice x73.a x73.n x73.c ∧
 (bsplit (!(findE es71 n69).isSome)
 (next60 ((IntKind.i64.wrap (x58.1 + 1)), (IntKind.i64.wrap (x58.2 + 1))) w65)
 (next60 (x58.1, (IntKind.i64.wrap (x58.2 + 1))) w65)))))))))))))))))
 ((∃ q74 : Option Addr, (w59.cell? (⟨w.heap.size, 0, none⟩ : Addr) = some (.pointer q74)) ∧
 (onP q74 fun p75 =>
 (∃ n76 : Int, (w59.cell? (p75.add 1) = some (.int .i64 n76)) ∧
 (bsplit (decide ((n76 : Int) < x58.1))
 (post (7) w59)
 ((loopR (α := Int) (0) w59 fun x77 w78 next79 =>
 (bsplit (decide ((x77 : Int) < ((a1.n : Nat) : Int)))
 ((0 ≤ (x77 : Int) ∧ (x77 : Int) < ((a1.n : Nat) : Int) ∧
 (onP a1.a fun p80 =>
 (∃ g81 : Int × SV, (w78.cell? (p80.add ((x77 : Int).toNat * 2)) = some (.int .i64 g81.1) ∧ w78.cell? ((p80.add ((x77 : Int).toNat * 2)).add 1) = some (.slice g81.2.a g81.2.n g81.2.c)) ∧
 (withW (w78.alloc (.cells #[.int .i64 0, .slice none 0 0] 33)) fun w82 =>
 ((((∃ u, w82.cell? (⟨w78.heap.size, 0, none⟩ : Addr) = some u) ∧ w82.frozen? (⟨w78.heap.size, 0, none⟩ : Addr) = false) ∧ ((∃ u, w82.cell? ((⟨w78.heap.size, 0, none⟩ : Addr).add 1) = some u) ∧ w82.frozen? ((⟨w78.heap.size, 0, none⟩ : Addr).add 1) = false)) ∧ (true = true) ∧
 (withW ((w82.setCell (⟨w78.heap.size, 0, none⟩ : Addr) (.int .i64 g81.1)).setCell ((⟨w78.heap.size, 0, none⟩ : Addr).add 1) (.slice g81.2.a g81.2.n g81.2.c)) fun w83 =>
 (withW w83.drew fun w85 =>
 (∃ S84 : World → Prop, S84 w85 ∧
 (∃ q86 : Option Addr, ((∀ w87, S84 w87 → w87.cell? (⟨w.heap.size, 0, none⟩ : Addr) = some (.pointer q86))) ∧
 (onP q86 fun p88 =>
 (∃ r89 : Option Nat, ((∀ w90, S84 w90 → w90.cell? (p88.add 2) = some (.map r89))) ∧
 (∃ n91 : Int, ((∀ w92, S84 w92 → w92.cell? (⟨w78.heap.size, 0, none⟩ : Addr) = some (.int .i64 n91))) ∧
 (∃ s93 : SV, ((∀ w94, S84 w94 → w94.cell? ((⟨w78.heap.size, 0, none⟩ : Addr).add 1) = some (.slice s93.a s93.n s93.c))) ∧
 (c_slices_Clone_byte_byte s93 w85 fun (x95 : SV) w96 =>
 (S84 w96 ∧
 ((true = true) ∧ (onM r89 (False) fun m97 =>
 (∃ (es98 : List En) (cl99 : Nat), mapAt w96 m97 .i64 es98 cl99 ∧
 (withW (World.setObj w96 m97 (.map (entries .i64 (putM es98 cl99 n91 (.slice x95.a x95.n x95.c))) (putClock es98 cl99 n91))) fun w100 =>
 next79 ((IntKind.i64.wrap (x77 + 1))) w100))))))))))))))))))))
 (post (0) w78)))))))))))))))))))))))))))))))
theorem wbuf_Buf_Write_go {w : World} {a0 : Option Addr} {a1 : SV} {post : RT [.cell (.int .i64)] → World → Prop} (h : f_wbuf_Buf_Write a0 a1 w post) : c_wbuf_Buf_Write a0 a1 w post :=
 calls_of_vc tab_ok Tryz.func61 (by kernel_rfl) (Eq.mpr (by kernel_rfl) h)
/-- scarp/scarpalike.Block; loop over (i : Int) -/
def f_scarpalike_Block (a0 : Int) (a1 : Int) (w : World) (post : SV → World → Prop) : Prop :=
 (0 ≤ ((if (0 : Int) > a0 then 0 else a0) : Int) ∧ ((if (0 : Int) > a0 then 0 else a0) : Int) ≤ (if (0 : Int) > a0 then 0 else a0) ∧ ((1 : Nat) : Int) * (if (0 : Int) > a0 then 0 else a0) ≤ 2 ^ 48 ∧ ((if (0 : Int) > a0 then 0 else a0) : Int) ≤ 2 ^ 48 ∧
 (withW (w.alloc (.cells (zrow [.int .u8 0] ((if (0 : Int) > a0 then 0 else a0) : Int).toNat).toArray 5)) fun w1 =>
 (loopR (α := Int) (0) w1 fun x2 w3 next4 =>
 (bsplit (decide ((x2 : Int) < (((((if (0 : Int) > a0 then 0 else a0) : Int).toNat) : Nat) : Int)))
 ((c_scarpalike_Round (IntKind.i64.wrap ((IntKind.i64.wrap ((IntKind.i64.wrap (x2 * x2)) + (IntKind.i64.wrap (a1 * 7)))) + 1)) 251 w3 fun (x5 : Int) w6 =>
 (0 ≤ (x2 : Int) ∧ (x2 : Int) < (((((if (0 : Int) > a0 then 0 else a0) : Int).toNat) : Nat) : Int) ∧
 ((((∃ u, w6.cell? ((⟨w.heap.size, 0, none⟩ : Addr).add ((x2 : Int).toNat * 1)) = some u) ∧ w6.frozen? ((⟨w.heap.size, 0, none⟩ : Addr).add ((x2 : Int).toNat * 1)) = false)) ∧ (true = true) ∧
 (withW (w6.setCell ((⟨w.heap.size, 0, none⟩ : Addr).add ((x2 : Int).toNat * 1)) (.int .u8 (IntKind.u8.wrap x5))) fun w7 =>
 next4 ((IntKind.i64.wrap (x2 + 1))) w7)))))
 (post (⟨(some (⟨w.heap.size, 0, none⟩ : Addr)), (((if (0 : Int) > a0 then 0 else a0) : Int).toNat), (((if (0 : Int) > a0 then 0 else a0) : Int).toNat)⟩) w3)))))
theorem scarpalike_Block_go {w : World} {a0 : Int} {a1 : Int} {post : RT [.cell (.slice)] → World → Prop} (h : f_scarpalike_Block a0 a1 w post) : c_scarpalike_Block a0 a1 w post :=
 calls_of_vc tab_ok Tryz.func62 (by kernel_rfl) (Eq.mpr (by kernel_rfl) h)
/-- (*scarp/wbuf.Buf).Len -/
def f_wbuf_Buf_Len (a0 : Option Addr) (w : World) (post : Int → World → Prop) : Prop :=
 (c_wbuf_Buf_Puts a0 w fun (x1 : SV) w2 =>
 post (((x1.n : Nat) : Int)) w2)
theorem wbuf_Buf_Len_go {w : World} {a0 : Option Addr} {post : RT [.cell (.int .i64)] → World → Prop} (h : f_wbuf_Buf_Len a0 w post) : c_wbuf_Buf_Len a0 w post :=
 calls_of_vc tab_ok Tryz.func63 (by kernel_rfl) (Eq.mpr (by kernel_rfl) h)
/-- (*scarp/txn.Manager).end -/
def f_txn_Manager_end (a0 : Option Addr) (a1 : Int) (a2 : Int) (a3 : Int) (w : World) (post : Unit → World → Prop) : Prop :=
 (onP a0 fun p1 =>
 (∃ r2 : Option Nat, (w.cell? (p1.add 2) = some (.map r2)) ∧
 ((true = true) ∧ (onM r2 (False) fun m3 =>
 (∃ es4 : List En, (∃ cl5, mapAt w m3 .i64 es4 cl5) ∧ ∃ x6 : Option Addr, (findE es4 a1).getD (.pointer none) = .pointer x6 ∧
 (onP x6 fun p7 =>
 ((((∃ u, w.cell? p7 = some u) ∧ w.frozen? p7 = false)) ∧ (true = true) ∧
 (withW (w.setCell p7 (.int .i64 a2)) fun w8 =>
 (onP x6 fun p9 =>
 ((((∃ u, w8.cell? (p9.add 2) = some u) ∧ w8.frozen? (p9.add 2) = false)) ∧ (true = true) ∧
 (withW (w8.setCell (p9.add 2) (.int .i64 a3)) fun w10 =>
 (bsplit (decide ((a2 : Int) = 4))
 ((onP x6 fun p11 =>
 ((((∃ u, w10.cell? (p11.add 1) = some u) ∧ w10.frozen? (p11.add 1) = false)) ∧ (true = true) ∧
 (withW (w10.setCell (p11.add 1) (.int .i64 0)) fun w12 =>
 (onP a0 fun p13 =>
 (∃ q14 : Option Addr, (w12.cell? (p13.add 1) = some (.pointer q14)) ∧
 (c_horizon_Book_Close q14 a1 w12 fun (x15 : Int) w16 =>
 post () w16)))))))
 ((onP a0 fun p17 =>
 (∃ q18 : Option Addr, (w10.cell? (p17.add 1) = some (.pointer q18)) ∧
 (c_horizon_Book_Close q18 a1 w10 fun (x19 : Int) w20 =>
 post () w20))))))))))))))))
theorem txn_Manager_end_go {w : World} {a0 : Option Addr} {a1 : Int} {a2 : Int} {a3 : Int} {post : RT [] → World → Prop} (h : f_txn_Manager_end a0 a1 a2 a3 w post) : c_txn_Manager_end a0 a1 a2 a3 w post :=
 calls_of_vc tab_ok Tryz.func64 (by kernel_rfl) (Eq.mpr (by kernel_rfl) h)
/-- (*scarp/txn.Manager).may -/
def f_txn_Manager_may (a0 : Option Addr) (a1 : Option Addr) (w : World) (post : Int → World → Prop) : Prop :=
 (onP a0 fun p1 =>
 (∃ b2 : Bool, (w.cell? (p1.add 9) = some (.bool b2)) ∧
 (bsplit b2
 (post (10) w)
 ((withW w.drew fun w4 =>
 (∃ S3 : World → Prop, S3 w4 ∧
 (onP a0 fun p5 =>
 (∃ q6 : Option Addr, ((∀ w7, S3 w7 → w7.cell? p5 = some (.pointer q6))) ∧
 (onP a1 fun p8 =>
 (∃ n9 : Int, ((∀ w10, S3 w10 → w10.cell? (p8.add 3) = some (.int .i64 n9))) ∧
 (onP a1 fun p11 =>
 (∃ q12 : Option Addr, ((∀ w13, S3 w13 → w13.cell? (p11.add 5) = some (.pointer q12))) ∧
 (onP a1 fun p14 =>
 (∃ q15 : Option Addr, ((∀ w16, S3 w16 → w16.cell? (p14.add 4) = some (.pointer q15))) ∧
 (c_txn_Manager_waiting a0 w4 fun (x17 : SV) w18 =>
 (S3 w18 ∧
 (c_rset_View_Set q12 w18 fun (x19 : (Option Addr)) w20 =>
 (S3 w20 ∧
 (c_wbuf_Buf_Set q15 w20 fun (x21 : (Option Addr)) w22 =>
 (S3 w22 ∧
 (c_valid_Check q6 x17 n9 x19 x21 w22 fun (x23 : Int) w24 =>
 (S3 w24 ∧
 (bsplit (!decide ((x23 : Int) = 0))
 (post (x23) w24)
 ((onP a0 fun p25 =>
 (∃ n26 : Int, (w24.cell? (p25.add 8) = some (.int .i64 n26)) ∧
 (bsplit (decide ((1099511627776 : Int) ≤ n26))
 (post (11) w24)
 (post (0) w24))))))))))))))))))))))))))))
theorem txn_Manager_may_go {w : World} {a0 : Option Addr} {a1 : Option Addr} {post : RT [.cell (.int .i64)] → World → Prop} (h : f_txn_Manager_may a0 a1 w post) : c_txn_Manager_may a0 a1 w post :=
 calls_of_vc tab_ok Tryz.func65 (by kernel_rfl) (Eq.mpr (by kernel_rfl) h)
/-- (*scarp/horizon.Book).Count -/
def f_horizon_Book_Count (a0 : Option Addr) (w : World) (post : Int → World → Prop) : Prop :=
 (c_horizon_Book_List a0 w fun (x1 : SV) w2 =>
 post (((x1.n : Nat) : Int)) w2)
theorem horizon_Book_Count_go {w : World} {a0 : Option Addr} {post : RT [.cell (.int .i64)] → World → Prop} (h : f_horizon_Book_Count a0 w post) : c_horizon_Book_Count a0 w post :=
 calls_of_vc tab_ok Tryz.func66 (by kernel_rfl) (Eq.mpr (by kernel_rfl) h)
/-- (*scarp/txn.Manager).waiting; loop over (out : SV, t11 : Int) -/
def f_txn_Manager_waiting (a0 : Option Addr) (w : World) (post : SV → World → Prop) : Prop :=
 (onP a0 fun p1 =>
 (∃ s2 : SV, (w.cell? (p1.add 3) = some (.slice s2.a s2.n s2.c)) ∧
 (loopR (α := SV × Int) (⟨none, 0, 0⟩, 0) w fun x3 w4 next5 =>
 (bsplit (decide ((x3.2 : Int) < ((s2.n : Nat) : Int)))
 ((0 ≤ (x3.2 : Int) ∧ (x3.2 : Int) < ((s2.n : Nat) : Int) ∧
 (onP s2.a fun p6 =>
 (∃ n7 : Int, (w4.cell? (p6.add ((x3.2 : Int).toNat * 1)) = some (.int .i64 n7)) ∧
 (onP a0 fun p8 =>
 (∃ r9 : Option Nat, (w4.cell? (p8.add 2) = some (.map r9)) ∧
 ((true = true) ∧ (onM r9 ((withW w4.drew fun w12 =>
 (∃ S11 : World → Prop, S11 w12 ∧
 False))) fun m10 =>
 (∃ es13 : List En, (∃ cl14, mapAt w4 m10 .i64 es13 cl14) ∧ ∃ x15 : Option Addr, (findE es13 n7).getD (.pointer none) = .pointer x15 ∧
 (withW w4.drew fun w17 =>
 (∃ S16 : World → Prop, S16 w17 ∧
 (onP x15 fun p18 =>
 (∃ n19 : Int, ((∀ w20, S16 w20 → w20.cell? (p18.add 1) = some (.int .i64 n19))) ∧
 (onP x15 fun p21 =>
 (∃ q22 : Option Addr, ((∀ w23, S16 w23 → w23.cell? (p21.add 4) = some (.pointer q22))) ∧
 (c_wbuf_Buf_Puts q22 w17 fun (x24 : SV) w25 =>
 (S16 w25 ∧
 (withW (w25.alloc (.cells #[.int .i64 n19, .slice x24.a x24.n x24.c] 70)) fun w26 =>
 (S16 w26 ∧
 (appendR x3.1 (⟨(some (⟨w25.heap.size, 0, none⟩ : Addr)), 1, 1⟩) 2 32 [.int .i64 0, .slice none 0 0] 70 w26 fun (s27 : SV) w28 =>
 (S16 w28 ∧
 next5 (⟨s27.a, s27.n, s27.c⟩, (IntKind.i64.wrap (x3.2 + 1))) w28)))))))))))))))))))))
 (post (⟨x3.1.a, x3.1.n, x3.1.c⟩) w4)))))
theorem txn_Manager_waiting_go {w : World} {a0 : Option Addr} {post : RT [.cell (.slice)] → World → Prop} (h : f_txn_Manager_waiting a0 w post) : c_txn_Manager_waiting a0 w post :=
 calls_of_vc tab_ok Tryz.func67 (by kernel_rfl) (Eq.mpr (by kernel_rfl) h)
/-- scarp/batch.Form; loop over (puts : Int, n : Int, t8 : Int) -/
def f_batch_Form (a0 : SV) (w : World) (post : Int → World → Prop) : Prop :=
 (loopR (α := Int × Int × Int) (0, 0, 0) w fun x1 w2 next3 =>
 (bsplit (decide ((x1.2.2 : Int) < ((a0.n : Nat) : Int)))
 ((0 ≤ (x1.2.2 : Int) ∧ (x1.2.2 : Int) < ((a0.n : Nat) : Int) ∧
 (onP a0.a fun p4 =>
 (∃ g5 : Int × SV, (w2.cell? (p4.add ((x1.2.2 : Int).toNat * 2)) = some (.int .i64 g5.1) ∧ w2.cell? ((p4.add ((x1.2.2 : Int).toNat * 2)).add 1) = some (.slice g5.2.a g5.2.n g5.2.c)) ∧
 (withW (w2.alloc (.cells #[.int .i64 0, .slice none 0 0] 70)) fun w6 =>
 ((((∃ u, w6.cell? (⟨w2.heap.size, 0, none⟩ : Addr) = some u) ∧ w6.frozen? (⟨w2.heap.size, 0, none⟩ : Addr) = false) ∧ ((∃ u, w6.cell? ((⟨w2.heap.size, 0, none⟩ : Addr).add 1) = some u) ∧ w6.frozen? ((⟨w2.heap.size, 0, none⟩ : Addr).add 1) = false)) ∧ (true = true) ∧
 (withW ((w6.setCell (⟨w2.heap.size, 0, none⟩ : Addr) (.int .i64 g5.1)).setCell ((⟨w2.heap.size, 0, none⟩ : Addr).add 1) (.slice g5.2.a g5.2.n g5.2.c)) fun w7 =>
 (bsplit (decide ((8 : Int) ≤ x1.2.1))
 (post (x1.2.1) w7)
 ((bsplit (decide ((0 : Int) < x1.2.1))
 ((∃ s8 : SV, (w7.cell? ((⟨w2.heap.size, 0, none⟩ : Addr).add 1) = some (.slice s8.a s8.n s8.c)) ∧
 (bsplit (decide (((IntKind.i64.wrap (32 - x1.1)) : Int) < ((s8.n : Nat) : Int)))
 (post (x1.2.1) w7)
 ((∃ s9 : SV, (w7.cell? ((⟨w2.heap.size, 0, none⟩ : Addr).add 1) = some (.slice s9.a s9.n s9.c)) ∧
 (withI (IntKind.i64.wrap (x1.1 + ((s9.n : Nat) : Int))) fun i10 =>
 (withI (IntKind.i64.wrap (x1.2.1 + 1)) fun i11 =>
 next3 (i10, i11, (IntKind.i64.wrap (x1.2.2 + 1))) w7)))))))
 ((∃ s12 : SV, (w7.cell? ((⟨w2.heap.size, 0, none⟩ : Addr).add 1) = some (.slice s12.a s12.n s12.c)) ∧
 (withI (IntKind.i64.wrap (x1.1 + ((s12.n : Nat) : Int))) fun i13 =>
 (withI (IntKind.i64.wrap (x1.2.1 + 1)) fun i14 =>
 next3 (i13, i14, (IntKind.i64.wrap (x1.2.2 + 1))) w7))))))))))))))
 (post (x1.2.1) w2)))
theorem batch_Form_go {w : World} {a0 : SV} {post : RT [.cell (.int .i64)] → World → Prop} (h : f_batch_Form a0 w post) : c_batch_Form a0 w post :=
 calls_of_vc tab_ok Tryz.func68 (by kernel_rfl) (Eq.mpr (by kernel_rfl) h)
/-- slices.Clone[[]int,int] -/
def f_slices_Clone_int_int (a0 : SV) (w : World) (post : SV → World → Prop) : Prop :=
 (bsplit ((a0.a).isNone)
 (post (⟨none, 0, 0⟩) w)
 ((withW (w.alloc (.cells #[] 3)) fun w1 =>
 (appendR (⟨(some (⟨w.heap.size, 0, none⟩ : Addr)), 0, 0⟩) a0 1 8 [.int .i64 0] 3 w1 fun (s2 : SV) w3 =>
 post (⟨s2.a, s2.n, s2.c⟩) w3))))
theorem slices_Clone_int_int_go {w : World} {a0 : SV} {post : RT [.cell (.slice)] → World → Prop} (h : f_slices_Clone_int_int a0 w post) : c_slices_Clone_int_int a0 w post :=
 calls_of_vc tab_ok Tryz.func69 (by kernel_rfl) (Eq.mpr (by kernel_rfl) h)
/-- (*scarp/extmap.Map).Apply; loop over (t58 : Int) -/
def f_extmap_Map_Apply (a0 : Option Addr) (a1c0 : Int) (a1c1 : SV) (w : World) (post : Int → World → Prop) : Prop :=
 (withW (w.alloc (.cells #[.int .i64 a1c0, .slice a1c1.a a1c1.n a1c1.c] 70)) fun w1 =>
 (c_extmap_Map_gone a0 w1 fun (x2 : Bool) w3 =>
 (bsplit x2
 (post (1) w3)
 ((withW w3.drew fun w4 =>
 (∃ n5 : Int, (w4.cell? (⟨w.heap.size, 0, none⟩ : Addr) = some (.int .i64 n5)) ∧
 (onP a0 fun p6 =>
 (∃ n7 : Int, (w4.cell? (p6.add 2) = some (.int .i64 n7)) ∧
 (bsplit (decide ((n5 : Int) ≤ n7))
 (post (11) w4)
 ((∃ n8 : Int, (w4.cell? (⟨w.heap.size, 0, none⟩ : Addr) = some (.int .i64 n8)) ∧
 (bsplit (decide ((1099511627776 : Int) < n8))
 (post (11) w4)
 ((∃ s9 : SV, (w4.cell? ((⟨w.heap.size, 0, none⟩ : Addr).add 1) = some (.slice s9.a s9.n s9.c)) ∧
 (c_extmap_rise s9 w4 fun (x10 : Bool) w11 =>
 (bsplit (!x10)
 (post (1) w11)
 ((∃ s12 : SV, (w11.cell? ((⟨w.heap.size, 0, none⟩ : Addr).add 1) = some (.slice s12.a s12.n s12.c)) ∧
 (0 ≤ (0 : Int) ∧ (0 : Int) < ((s12.n : Nat) : Int) ∧
 (onP s12.a fun p13 =>
 (∃ n14 : Int, (w11.cell? (p13.add ((0 : Int).toNat * 2)) = some (.int .i64 n14)) ∧
 (c_extmap_Map_block a0 n14 w11 fun (x15 : Bool) w16 =>
 (bsplit (!x15)
 (post (2) w16)
 ((∃ s17 : SV, (w16.cell? ((⟨w.heap.size, 0, none⟩ : Addr).add 1) = some (.slice s17.a s17.n s17.c)) ∧
 (∃ s18 : SV, (w16.cell? ((⟨w.heap.size, 0, none⟩ : Addr).add 1) = some (.slice s18.a s18.n s18.c)) ∧
 (0 ≤ ((IntKind.i64.wrap (((s18.n : Nat) : Int) - 1)) : Int) ∧ ((IntKind.i64.wrap (((s18.n : Nat) : Int) - 1)) : Int) < ((s17.n : Nat) : Int) ∧
 (onP s17.a fun p19 =>
 (∃ n20 : Int, (w16.cell? (p19.add (((IntKind.i64.wrap (((s18.n : Nat) : Int) - 1)) : Int).toNat * 2)) = some (.int .i64 n20)) ∧
 (c_extmap_Map_block a0 n20 w16 fun (x21 : Bool) w22 =>
 (bsplit (!x21)
 (post (2) w22)
 ((∃ s23 : SV, (w22.cell? ((⟨w.heap.size, 0, none⟩ : Addr).add 1) = some (.slice s23.a s23.n s23.c)) ∧
 (c_slices_ContainsFunc_api_Put_api_Put_at_extmap_Map_Apply_1 s23 w22 fun (x24 : Bool) w25 =>
 (bsplit x24
 (post (3) w25)
 ((∃ s26 : SV, (w25.cell? ((⟨w.heap.size, 0, none⟩ : Addr).add 1) = some (.slice s26.a s26.n s26.c)) ∧
 (loopR (α := Int) (0) w25 fun x27 w28 next29 =>
 (bsplit (decide ((x27 : Int) < ((s26.n : Nat) : Int)))
 ((0 ≤ (x27 : Int) ∧ (x27 : Int) < ((s26.n : Nat) : Int) ∧
 (onP s26.a fun p30 =>
 (∃ g31 : Int × SV, (w28.cell? (p30.add ((x27 : Int).toNat * 2)) = some (.int .i64 g31.1) ∧ w28.cell? ((p30.add ((x27 : Int).toNat * 2)).add 1) = some (.slice g31.2.a g31.2.n g31.2.c)) ∧
 (withW (w28.alloc (.cells #[.int .i64 0, .slice none 0 0] 33)) fun w32 =>
 ((((∃ u, w32.cell? (⟨w28.heap.size, 0, none⟩ : Addr) = some u) ∧ w32.frozen? (⟨w28.heap.size, 0, none⟩ : Addr) = false) ∧ ((∃ u, w32.cell? ((⟨w28.heap.size, 0, none⟩ : Addr).add 1) = some u) ∧ w32.frozen? ((⟨w28.heap.size, 0, none⟩ : Addr).add 1) = false)) ∧ (true = true) ∧
 (withW ((w32.setCell (⟨w28.heap.size, 0, none⟩ : Addr) (.int .i64 g31.1)).setCell ((⟨w28.heap.size, 0, none⟩ : Addr).add 1) (.slice g31.2.a g31.2.n g31.2.c)) fun w33 =>
 (withW w33.drew fun w35 =>
 (∃ S34 : World → Prop, S34 w35 ∧
 (onP a0 fun p36 =>
 (∃ r37 : Option Nat, ((∀ w38, S34 w38 → w38.cell? (p36.add 1) = some (.map r37))) ∧
 (∃ n39 : Int, ((∀ w40, S34 w40 → w40.cell? (⟨w28.heap.size, 0, none⟩ : Addr) = some (.int .i64 n39))) ∧
 (onP a0 fun p41 =>
 (∃ r42 : Option Nat, ((∀ w43, S34 w43 → w43.cell? (p41.add 1) = some (.map r42))) ∧
 (∃ n44 : Int, ((∀ w45, S34 w45 → w45.cell? (⟨w28.heap.size, 0, none⟩ : Addr) = some (.int .i64 n44))) ∧
 ((true = true) ∧ (onM r42 ((∃ n47 : Int, ((∀ w48, S34 w48 → w48.cell? (⟨w.heap.size, 0, none⟩ : Addr) = some (.int .i64 n47))) ∧
 (∃ s49 : SV, ((∀ w50, S34 w50 → w50.cell? ((⟨w28.heap.size, 0, none⟩ : Addr).add 1) = some (.slice s49.a s49.n s49.c))) ∧
 (c_slices_Clone_byte_byte s49 w35 fun (x51 : SV) w52 =>
 (S34 w52 ∧
 (withW (w52.alloc (.cells #[.int .i64 n47, .slice x51.a x51.n x51.c] 185)) fun w53 =>
 (S34 w53 ∧
 (appendR (⟨none, 0, 0⟩) (⟨(some (⟨w52.heap.size, 0, none⟩ : Addr)), 1, 1⟩) 2 32 [.int .i64 0, .slice none 0 0] 185 w53 fun (s54 : SV) w55 =>
 (S34 w55 ∧
 ((true = true) ∧ (onM r37 (False) fun m56 =>
 (∃ (es57 : List En) (cl58 : Nat), mapAt w55 m56 .i64 es57 cl58 ∧
 (withW (World.setObj w55 m56 (.map (entries .i64 (putM es57 cl58 n39 (.slice s54.a s54.n s54.c))) (putClock es57 cl58 n39))) fun w59 =>
 next29 ((IntKind.i64.wrap (x27 + 1))) w59))))))))))))) fun m46 =>
 (∃ es60 : List En, ((∀ w63, S34 w63 → ∃ cl61, mapAt w63 m46 .i64 es60 cl61)) ∧ ∃ x62 : SV, (findE es60 n44).getD (.slice none 0 0) = .slice x62.a x62.n x62.c ∧
 (∃ n64 : Int, ((∀ w65, S34 w65 → w65.cell? (⟨w.heap.size, 0, none⟩ : Addr) = some (.int .i64 n64))) ∧
 (∃ s66 : SV, ((∀ w67, S34 w67 → w67.cell? ((⟨w28.heap.size, 0, none⟩ : Addr).add 1) = some (.slice s66.a s66.n s66.c))) ∧
 (c_slices_Clone_byte_byte s66 w35 fun (x68 : SV) w69 =>
 (S34 w69 ∧
 (withW (w69.alloc (.cells #[.int .i64 n64, .slice x68.a x68.n x68.c] 185)) fun w70 =>
 (S34 w70 ∧
 (appendR x62 (⟨(some (⟨w69.heap.size, 0, none⟩ : Addr)), 1, 1⟩) 2 32 [.int .i64 0, .slice none 0 0] 185 w70 fun (s71 : SV) w72 =>
 (S34 w72 ∧
 ((true = true) ∧ (onM r37 (False) fun m73 =>
 (∃ (es74 : List En) (cl75 : Nat), mapAt w72 m73 .i64 es74 cl75 ∧
 (withW (World.setObj w72 m73 (.map (entries .i64 (putM es74 cl75 n39 (.slice s71.a s71.n s71.c))) (putClock es74 cl75 n39))) fun w76 =>
 next29 ((IntKind.i64.wrap (x27 + 1))) w76))))))))))))))))))))))))))))))
 ((∃ n77 : Int, (w28.cell? (⟨w.heap.size, 0, none⟩ : Addr) = some (.int .i64 n77)) ∧
 (onP a0 fun p78 =>
 ((((∃ u, w28.cell? (p78.add 2) = some u) ∧ w28.frozen? (p78.add 2) = false)) ∧ (true = true) ∧
 (withW (w28.setCell (p78.add 2) (.int .i64 n77)) fun w79 =>
 post (0) w79))))))))))))))))))))))))))))))))))))))))))))
theorem extmap_Map_Apply_go {w : World} {a0 : Option Addr} {a1c0 : Int} {a1c1 : SV} {post : RT [.cell (.int .i64)] → World → Prop} (h : f_extmap_Map_Apply a0 a1c0 a1c1 w post) : c_extmap_Map_Apply a0 a1c0 a1c1 w post :=
 calls_of_vc tab_ok Tryz.func70 (by kernel_rfl) (Eq.mpr (by kernel_rfl) h)
/-- (*scarp/extmap.Map).Dump; loop over (out : SV, t15 : Int) -/
def f_extmap_Map_Dump (a0 : Option Addr) (w : World) (post : SV → World → Prop) : Prop :=
 (c_extmap_Map_gone a0 w fun (x1 : Bool) w2 =>
 (bsplit x1
 (post (⟨none, 0, 0⟩) w2)
 ((onP a0 fun p3 =>
 (∃ r4 : Option Nat, (w2.cell? (p3.add 1) = some (.map r4)) ∧
 (c_maps_Keys_map_int_extmap_version_int_extmap_version r4 w2 fun (x5 : (Option (Fn × Array Value × Array Value))) w6 =>
 (callsR Tryz.prog 109 #[(Sh.v (.func) x5)] [.cell (.slice)] w6 fun (x7 : SV) w8 =>
 (loopR (α := SV × Int) (⟨none, 0, 0⟩, 0) w8 fun x9 w10 next11 =>
 (bsplit (decide ((x9.2 : Int) < ((x7.n : Nat) : Int)))
 ((0 ≤ (x9.2 : Int) ∧ (x9.2 : Int) < ((x7.n : Nat) : Int) ∧
 (onP x7.a fun p12 =>
 (∃ n13 : Int, (w10.cell? (p12.add ((x9.2 : Int).toNat * 1)) = some (.int .i64 n13)) ∧
 (onP a0 fun p14 =>
 (∃ r15 : Option Nat, (w10.cell? (p14.add 1) = some (.map r15)) ∧
 ((true = true) ∧ (onM r15 ((0 ≤ ((IntKind.i64.wrap (((0 : Nat) : Int) - 1)) : Int) ∧ ((IntKind.i64.wrap (((0 : Nat) : Int) - 1)) : Int) < ((0 : Nat) : Int) ∧
 False)) fun m16 =>
 (∃ es17 : List En, (∃ cl18, mapAt w10 m16 .i64 es17 cl18) ∧ ∃ x19 : SV, (findE es17 n13).getD (.slice none 0 0) = .slice x19.a x19.n x19.c ∧
 (0 ≤ ((IntKind.i64.wrap (((x19.n : Nat) : Int) - 1)) : Int) ∧ ((IntKind.i64.wrap (((x19.n : Nat) : Int) - 1)) : Int) < ((x19.n : Nat) : Int) ∧
 (onP x19.a fun p20 =>
 (∃ s21 : SV, (w10.cell? ((p20.add (((IntKind.i64.wrap (((x19.n : Nat) : Int) - 1)) : Int).toNat * 2)).add 1) = some (.slice s21.a s21.n s21.c)) ∧
 (c_slices_Clone_byte_byte s21 w10 fun (x22 : SV) w23 =>
 (withW (w23.alloc (.cells #[.int .i64 n13, .slice x22.a x22.n x22.c] 33)) fun w24 =>
 (appendR x9.1 (⟨(some (⟨w23.heap.size, 0, none⟩ : Addr)), 1, 1⟩) 2 32 [.int .i64 0, .slice none 0 0] 33 w24 fun (s25 : SV) w26 =>
 next11 (⟨s25.a, s25.n, s25.c⟩, (IntKind.i64.wrap (x9.2 + 1))) w26)))))))))))))))
 (post (⟨x9.1.a, x9.1.n, x9.1.c⟩) w10))))))))))
theorem extmap_Map_Dump_go {w : World} {a0 : Option Addr} {post : RT [.cell (.slice)] → World → Prop} (h : f_extmap_Map_Dump a0 w post) : c_extmap_Map_Dump a0 w post :=
 calls_of_vc tab_ok Tryz.func71 (by kernel_rfl) (Eq.mpr (by kernel_rfl) h)
/-- (*scarp/rset.View).Read; loop over (t55 : Int) -/
def f_rset_View_Read (a0 : Option Addr) (a1c0 : Int) (a1c1 : Int) (w : World) (post : (SV × Int) → World → Prop) : Prop :=
 (withW (w.alloc (.cells #[.int .i64 a1c0, .int .i64 a1c1] 56)) fun w1 =>
 (∃ n2 : Int, (w1.cell? ((⟨w.heap.size, 0, none⟩ : Addr).add 1) = some (.int .i64 n2)) ∧
 (bsplit (decide ((n2 : Int) < 1))
 (post (⟨none, 0, 0⟩, 3) w1)
 ((∃ n3 : Int, (w1.cell? ((⟨w.heap.size, 0, none⟩ : Addr).add 1) = some (.int .i64 n3)) ∧
 (bsplit (decide ((16 : Int) < n3))
 (post (⟨none, 0, 0⟩, 3) w1)
 ((bsplit ((a0).isNone)
 (post (⟨none, 0, 0⟩, 2) w1)
 ((onP a0 fun p4 =>
 (∃ q5 : Option Addr, (w1.cell? p4 = some (.pointer q5)) ∧
 (bsplit ((q5).isNone)
 (post (⟨none, 0, 0⟩, 2) w1)
 ((withW w1.drew fun w7 =>
 (∃ S6 : World → Prop, S6 w7 ∧
 (onP a0 fun p8 =>
 (∃ q9 : Option Addr, ((∀ w10, S6 w10 → w10.cell? p8 = some (.pointer q9))) ∧
 (∃ g11 : Int × Int, ((∀ w12, S6 w12 → w12.cell? (⟨w.heap.size, 0, none⟩ : Addr) = some (.int .i64 g11.1) ∧ w12.cell? ((⟨w.heap.size, 0, none⟩ : Addr).add 1) = some (.int .i64 g11.2))) ∧
 (onP a0 fun p13 =>
 (∃ n14 : Int, ((∀ w15, S6 w15 → w15.cell? (p13.add 2) = some (.int .i64 n14))) ∧
 (c_extmap_Map_Range q9 g11.1 g11.2 n14 w7 fun (x16 : SV × Int) w17 =>
 (S6 w17 ∧
 (bsplit (!decide ((x16.2 : Int) = 0))
 (post (⟨none, 0, 0⟩, x16.2) w17)
 ((withW w17.drew fun w19 =>
 (∃ S18 : World → Prop, S18 w19 ∧
 (onP a0 fun p20 =>
 (∃ q21 : Option Addr, ((∀ w22, S18 w22 → w22.cell? (p20.add 3) = some (.pointer q21))) ∧
 (∃ g23 : Int × Int, ((∀ w24, S18 w24 → w24.cell? (⟨w.heap.size, 0, none⟩ : Addr) = some (.int .i64 g23.1) ∧ w24.cell? ((⟨w.heap.size, 0, none⟩ : Addr).add 1) = some (.int .i64 g23.2))) ∧
 (withW (w19.alloc (.cells #[.int .i64 g23.1, .int .i64 g23.2] 56)) fun w25 =>
 (S18 w25 ∧
 (c_ival_Set_Add q21 (⟨(some (⟨w19.heap.size, 0, none⟩ : Addr)), 1, 1⟩) w25 fun (x26 : Int) w27 =>
 (S18 w27 ∧
 (bsplit (!decide ((x26 : Int) = 0))
 (post (⟨none, 0, 0⟩, 7) w27)
 ((∃ n28 : Int, (w27.cell? ((⟨w.heap.size, 0, none⟩ : Addr).add 1) = some (.int .i64 n28)) ∧
 (loopR (α := Int) (0) w27 fun x29 w30 next31 =>
 (bsplit (decide ((x29 : Int) < n28))
 ((0 ≤ ((IntKind.i64.wrap (x29 * 40)) : Int) ∧ ((IntKind.i64.wrap (x29 * 40)) : Int) ≤ ((IntKind.i64.wrap ((IntKind.i64.wrap (x29 + 1)) * 40)) : Int) ∧ ((IntKind.i64.wrap ((IntKind.i64.wrap (x29 + 1)) * 40)) : Int) ≤ ((x16.1.c : Nat) : Int) ∧
 (withW w30.drew fun w33 =>
 (∃ S32 : World → Prop, S32 w33 ∧
 (onP a0 fun p34 =>
 (∃ q35 : Option Addr, ((∀ w36, S32 w36 → w36.cell? (p34.add 1) = some (.pointer q35))) ∧
 (∃ n37 : Int, ((∀ w38, S32 w38 → w38.cell? (⟨w.heap.size, 0, none⟩ : Addr) = some (.int .i64 n37))) ∧
 (c_wbuf_Buf_Get q35 (IntKind.i64.wrap (n37 + x29)) w33 fun (x39 : SV × Bool) w40 =>
 (S32 w40 ∧
 (bsplit x39.2
 ((copyR (⟨(sub? x16.1.a ((IntKind.i64.wrap (x29 * 40)) : Int).toNat x16.1.c 1), (((IntKind.i64.wrap ((IntKind.i64.wrap (x29 + 1)) * 40)) : Int).toNat - ((IntKind.i64.wrap (x29 * 40)) : Int).toNat), (x16.1.c - ((IntKind.i64.wrap (x29 * 40)) : Int).toNat)⟩) x39.1 1 w40 fun (n41 : Int) w42 =>
 (withW w42.drew fun w44 =>
 (∃ S43 : World → Prop, S43 w44 ∧
 (onP a0 fun p45 =>
 (∃ s46 : SV, ((∀ w47, S43 w47 → w47.cell? (p45.add 4) = some (.slice s46.a s46.n s46.c))) ∧
 (∃ n48 : Int, ((∀ w49, S43 w49 → w49.cell? (⟨w.heap.size, 0, none⟩ : Addr) = some (.int .i64 n48))) ∧
 (withW (w44.alloc (.cells #[.int .i64 (IntKind.i64.wrap (n48 + x29)), .slice x39.1.a x39.1.n x39.1.c, .bool true] 76)) fun w50 =>
 (S43 w50 ∧
 (appendR s46 (⟨(some (⟨w44.heap.size, 0, none⟩ : Addr)), 1, 1⟩) 3 40 [.int .i64 0, .slice none 0 0, .bool false] 76 w50 fun (s51 : SV) w52 =>
 (S43 w52 ∧
 (onP a0 fun p53 =>
 ((((∃ u, w52.cell? (p53.add 4) = some u) ∧ w52.frozen? (p53.add 4) = false)) ∧ (true = true) ∧
 (withW (w52.setCell (p53.add 4) (.slice s51.a s51.n s51.c)) fun w54 =>
 next31 ((IntKind.i64.wrap (x29 + 1))) w54))))))))))))))
 ((withW w40.drew fun w56 =>
 (∃ S55 : World → Prop, S55 w56 ∧
 (onP a0 fun p57 =>
 (∃ s58 : SV, ((∀ w59, S55 w59 → w59.cell? (p57.add 4) = some (.slice s58.a s58.n s58.c))) ∧
 (∃ n60 : Int, ((∀ w61, S55 w61 → w61.cell? (⟨w.heap.size, 0, none⟩ : Addr) = some (.int .i64 n60))) ∧
 (c_slices_Clone_byte_byte (⟨(sub? x16.1.a ((IntKind.i64.wrap (x29 * 40)) : Int).toNat x16.1.c 1), (((IntKind.i64.wrap ((IntKind.i64.wrap (x29 + 1)) * 40)) : Int).toNat - ((IntKind.i64.wrap (x29 * 40)) : Int).toNat), (x16.1.c - ((IntKind.i64.wrap (x29 * 40)) : Int).toNat)⟩) w56 fun (x62 : SV) w63 =>
 (S55 w63 ∧
 (withW (w63.alloc (.cells #[.int .i64 (IntKind.i64.wrap (n60 + x29)), .slice x62.a x62.n x62.c, .bool false] 76)) fun w64 =>
 (S55 w64 ∧
 (appendR s58 (⟨(some (⟨w63.heap.size, 0, none⟩ : Addr)), 1, 1⟩) 3 40 [.int .i64 0, .slice none 0 0, .bool false] 76 w64 fun (s65 : SV) w66 =>
 (S55 w66 ∧
 (onP a0 fun p67 =>
 ((((∃ u, w66.cell? (p67.add 4) = some u) ∧ w66.frozen? (p67.add 4) = false)) ∧ (true = true) ∧
 (withW (w66.setCell (p67.add 4) (.slice s65.a s65.n s65.c)) fun w68 =>
 next31 ((IntKind.i64.wrap (x29 + 1))) w68)))))))))))))))))))))))))
 (post (⟨x16.1.a, x16.1.n, x16.1.c⟩, 0) w30)))))))))))))))))))))))))))))))))))))))
theorem rset_View_Read_go {w : World} {a0 : Option Addr} {a1c0 : Int} {a1c1 : Int} {post : RT [.cell (.slice), .cell (.int .i64)] → World → Prop} (h : f_rset_View_Read a0 a1c0 a1c1 w post) : c_rset_View_Read a0 a1c0 a1c1 w post :=
 calls_of_vc tab_ok Tryz.func72 (by kernel_rfl) (Eq.mpr (by kernel_rfl) h)
/-- scarp/scarpalike.Sum; loop over (t4 : Int, n : Int, i : Int) -/
def f_scarpalike_Sum (a0 : Int) (a1 : SV) (w : World) (post : Int → World → Prop) : Prop :=
 (loopR (α := Int × Int × Int) (0, a0, 0) w fun x1 w2 next3 =>
 (bsplit (decide ((x1.2.2 : Int) < ((a1.n : Nat) : Int)))
 ((bsplit (decide ((1099511627776 : Int) < x1.2.1))
 (post (1099511627776) w2)
 ((0 ≤ (x1.2.2 : Int) ∧ (x1.2.2 : Int) < ((a1.n : Nat) : Int) ∧
 (onP a1.a fun p4 =>
 (∃ n5 : Int, (w2.cell? (p4.add ((x1.2.2 : Int).toNat * 1)) = some (.int .i64 n5)) ∧
 (bsplit (decide (((IntKind.i64.wrap (1099511627776 - x1.2.1)) : Int) < n5))
 (post (1099511627776) w2)
 ((0 ≤ (x1.2.2 : Int) ∧ (x1.2.2 : Int) < ((a1.n : Nat) : Int) ∧
 (onP a1.a fun p6 =>
 (∃ n7 : Int, (w2.cell? (p6.add ((x1.2.2 : Int).toNat * 1)) = some (.int .i64 n7)) ∧
 (withI (IntKind.i64.wrap (x1.2.1 + n7)) fun i8 =>
 (withI (IntKind.i64.wrap (x1.2.2 + 1)) fun i9 =>
 next3 (x1.1, i8, i9) w2)))))))))))))
 (post (x1.2.1) w2)))
theorem scarpalike_Sum_go {w : World} {a0 : Int} {a1 : SV} {post : RT [.cell (.int .i64)] → World → Prop} (h : f_scarpalike_Sum a0 a1 w post) : c_scarpalike_Sum a0 a1 w post :=
 calls_of_vc tab_ok Tryz.func73 (by kernel_rfl) (Eq.mpr (by kernel_rfl) h)
/-- (*scarp/extmap.Map).Prune; loop over (n : Int); loop over (n : Int) -/
def f_extmap_Map_Prune (a0 : Option Addr) (a1 : Int) (w : World) (post : Int → World → Prop) : Prop :=
 (c_extmap_Map_gone a0 w fun (x1 : Bool) w2 =>
 (bsplit x1
 (post (0) w2)
 ((onP a0 fun p3 =>
 (∃ r4 : Option Nat, (w2.cell? (p3.add 1) = some (.map r4)) ∧
 (onM r4 ((withW (w2.alloc (.mapIter none 0 #[] 0)) fun w6 =>
 (loopR (α := Int) (0) w6 fun x7 w8 next9 =>
 ((⟨w2.heap.size, 0, none⟩ : Addr).off = 0 ∧ ∃ (m10 : Option Nat) (si11 : Nat) (se12 : Array Nat) (st13 : Nat), w8.heap[(⟨w2.heap.size, 0, none⟩ : Addr).block]? = some (.mapIter m10 si11 se12 st13) ∧
 (onM m10 (post (x7) w8) fun m14 =>
 (∃ (es15 : List En) (cl16 : Nat), mapAt w8 m14 .i64 es15 cl16 ∧ (se12 = #[] ∨ es15 = [] ∨ ∃ e ∈ es15, e.b < st13) ∧
 (∀ e17 ∈ es15, e17.b ∉ se12 → ∀ w18, (w18 = w8 ∨ w18 = w8.drew) →
 (withW (World.setObj w18 (⟨w2.heap.size, 0, none⟩ : Addr).block (.mapIter (some m14) si11 (se12.push e17.b) cl16)) fun w20 =>
 ((⟨w2.heap.size, 0, none⟩ : Addr).off = 0 ∧ ∃ (m21 si22 : Nat) (se23 : Array Nat) (st24 : Nat), w20.heap[(⟨w2.heap.size, 0, none⟩ : Addr).block]? = some (.mapIter (some m21) si22 se23 st24) ∧ ∃ (es25 : List En), mapAt w20 m21 .i64 es25 st24 ∧ ∃ e26, se23.back? = some e26.b ∧ e26 ∈ es25 ∧ (∀ f ∈ es25, f.b = e26.b → f = e26) ∧ ∃ x27 : SV, e26.v = .slice x27.a x27.n x27.c ∧
 (c_extmap_Map_at a0 e26.k a1 w20 fun (x28 : Int) w29 =>
 (bsplit (decide ((0 : Int) < x28))
 ((withW w29.drew fun w31 =>
 (∃ S30 : World → Prop, S30 w31 ∧
 (onP a0 fun p32 =>
 (∃ r33 : Option Nat, ((∀ w34, S30 w34 → w34.cell? (p32.add 1) = some (.map r33))) ∧
 (0 ≤ (x28 : Int) ∧ (x28 : Int) ≤ (((x27.n : Nat) : Int) : Int) ∧ (((x27.n : Nat) : Int) : Int) ≤ ((x27.c : Nat) : Int) ∧
 (c_slices_Clone_extmap_version_extmap_version (⟨(sub? x27.a (x28 : Int).toNat x27.c 2), ((((x27.n : Nat) : Int) : Int).toNat - (x28 : Int).toNat), (x27.c - (x28 : Int).toNat)⟩) w31 fun (x35 : SV) w36 =>
 (S30 w36 ∧
 ((true = true) ∧ (onM r33 (False) fun m37 =>
 (∃ (es38 : List En) (cl39 : Nat), mapAt w36 m37 .i64 es38 cl39 ∧
 (withW (World.setObj w36 m37 (.map (entries .i64 (putM es38 cl39 e26.k (.slice x35.a x35.n x35.c))) (putClock es38 cl39 e26.k))) fun w40 =>
 next9 ((IntKind.i64.wrap (x7 + x28))) w40))))))))))))
 (next9 (x7) w29)))))) ∧
 ((∀ e ∈ es15, e.b < si11 → e.b ∈ se12) → ∀ w19, (w19 = w8 ∨ w19 = w8.drew) →
 post (x7) w19))))))) fun m5 =>
 (∃ es41 cl42, w2.heap[m5]? = some (.map es41 cl42) ∧
 (withW (w2.alloc (.mapIter (some m5) cl42 #[] cl42)) fun w43 =>
 (loopR (α := Int) (0) w43 fun x44 w45 next46 =>
 ((⟨w2.heap.size, 0, none⟩ : Addr).off = 0 ∧ ∃ (m47 : Option Nat) (si48 : Nat) (se49 : Array Nat) (st50 : Nat), w45.heap[(⟨w2.heap.size, 0, none⟩ : Addr).block]? = some (.mapIter m47 si48 se49 st50) ∧
 (onM m47 (post (x44) w45) fun m51 =>
 (∃ (es52 : List En) (cl53 : Nat), mapAt w45 m51 .i64 es52 cl53 ∧ (se49 = #[] ∨ es52 = [] ∨ ∃ e ∈ es52, e.b < st50) ∧
 (∀ e54 ∈ es52, e54.b ∉ se49 → ∀ w55, (w55 = w45 ∨ w55 = w45.drew) →
 (withW (World.setObj w55 (⟨w2.heap.size, 0, none⟩ : Addr).block (.mapIter (some m51) si48 (se49.push e54.b) cl53)) fun w57 =>
 ((⟨w2.heap.size, 0, none⟩ : Addr).off = 0 ∧ ∃ (m58 si59 : Nat) (se60 : Array Nat) (st61 : Nat), w57.heap[(⟨w2.heap.size, 0, none⟩ : Addr).block]? = some (.mapIter (some m58) si59 se60 st61) ∧ ∃ (es62 : List En), mapAt w57 m58 .i64 es62 st61 ∧ ∃ e63, se60.back? = some e63.b ∧ e63 ∈ es62 ∧ (∀ f ∈ es62, f.b = e63.b → f = e63) ∧ ∃ x64 : SV, e63.v = .slice x64.a x64.n x64.c ∧
 (c_extmap_Map_at a0 e63.k a1 w57 fun (x65 : Int) w66 =>
 (bsplit (decide ((0 : Int) < x65))
 ((withW w66.drew fun w68 =>
 (∃ S67 : World → Prop, S67 w68 ∧
 (onP a0 fun p69 =>
 (∃ r70 : Option Nat, ((∀ w71, S67 w71 → w71.cell? (p69.add 1) = some (.map r70))) ∧
 (0 ≤ (x65 : Int) ∧ (x65 : Int) ≤ (((x64.n : Nat) : Int) : Int) ∧ (((x64.n : Nat) : Int) : Int) ≤ ((x64.c : Nat) : Int) ∧
 (c_slices_Clone_extmap_version_extmap_version (⟨(sub? x64.a (x65 : Int).toNat x64.c 2), ((((x64.n : Nat) : Int) : Int).toNat - (x65 : Int).toNat), (x64.c - (x65 : Int).toNat)⟩) w68 fun (x72 : SV) w73 =>
 (S67 w73 ∧
 ((true = true) ∧ (onM r70 (False) fun m74 =>
 (∃ (es75 : List En) (cl76 : Nat), mapAt w73 m74 .i64 es75 cl76 ∧
 (withW (World.setObj w73 m74 (.map (entries .i64 (putM es75 cl76 e63.k (.slice x72.a x72.n x72.c))) (putClock es75 cl76 e63.k))) fun w77 =>
 next46 ((IntKind.i64.wrap (x44 + x65))) w77))))))))))))
 (next46 (x44) w66)))))) ∧
 ((∀ e ∈ es52, e.b < si48 → e.b ∈ se49) → ∀ w56, (w56 = w45 ∨ w56 = w45.drew) →
 post (x44) w56)))))))))))))
theorem extmap_Map_Prune_go {w : World} {a0 : Option Addr} {a1 : Int} {post : RT [.cell (.int .i64)] → World → Prop} (h : f_extmap_Map_Prune a0 a1 w post) : c_extmap_Map_Prune a0 a1 w post :=
 calls_of_vc tab_ok Tryz.func74 (by kernel_rfl) (Eq.mpr (by kernel_rfl) h)
/-- (*scarp/horizon.Book).Low; loop over (now : Int); loop over (now : Int) -/
def f_horizon_Book_Low (a0 : Option Addr) (a1 : Int) (w : World) (post : Int → World → Prop) : Prop :=
 (bsplit ((a0).isNone)
 (post (a1) w)
 ((onP a0 fun p1 =>
 (∃ r2 : Option Nat, (w.cell? (p1.add 2) = some (.map r2)) ∧
 (onM r2 ((withW (w.alloc (.mapIter none 0 #[] 0)) fun w4 =>
 (loopR (α := Int) (a1) w4 fun x5 w6 next7 =>
 ((⟨w.heap.size, 0, none⟩ : Addr).off = 0 ∧ ∃ (m8 : Option Nat) (si9 : Nat) (se10 : Array Nat) (st11 : Nat), w6.heap[(⟨w.heap.size, 0, none⟩ : Addr).block]? = some (.mapIter m8 si9 se10 st11) ∧
 (onM m8 (post (x5) w6) fun m12 =>
 (∃ (es13 : List En) (cl14 : Nat), mapAt w6 m12 .i64 es13 cl14 ∧ (se10 = #[] ∨ es13 = [] ∨ ∃ e ∈ es13, e.b < st11) ∧
 (∀ e15 ∈ es13, e15.b ∉ se10 → ∀ w16, (w16 = w6 ∨ w16 = w6.drew) →
 (withW (World.setObj w16 (⟨w.heap.size, 0, none⟩ : Addr).block (.mapIter (some m12) si9 (se10.push e15.b) cl14)) fun w18 =>
 ((⟨w.heap.size, 0, none⟩ : Addr).off = 0 ∧ ∃ (m19 si20 : Nat) (se21 : Array Nat) (st22 : Nat), w18.heap[(⟨w.heap.size, 0, none⟩ : Addr).block]? = some (.mapIter (some m19) si20 se21 st22) ∧ ∃ (es23 : List En), mapAt w18 m19 .i64 es23 st22 ∧ ∃ e24, se21.back? = some e24.b ∧ e24 ∈ es23 ∧ (∀ f ∈ es23, f.b = e24.b → f = e24) ∧ ∃ x25 : Int, e24.v = .int .i64 x25 ∧
 (withI (if (x25 : Int) < x5 then x25 else x5) fun i26 =>
 next7 (i26) w18)))) ∧
 ((∀ e ∈ es13, e.b < si9 → e.b ∈ se10) → ∀ w17, (w17 = w6 ∨ w17 = w6.drew) →
 post (x5) w17))))))) fun m3 =>
 (∃ es27 cl28, w.heap[m3]? = some (.map es27 cl28) ∧
 (withW (w.alloc (.mapIter (some m3) cl28 #[] cl28)) fun w29 =>
 (loopR (α := Int) (a1) w29 fun x30 w31 next32 =>
 ((⟨w.heap.size, 0, none⟩ : Addr).off = 0 ∧ ∃ (m33 : Option Nat) (si34 : Nat) (se35 : Array Nat) (st36 : Nat), w31.heap[(⟨w.heap.size, 0, none⟩ : Addr).block]? = some (.mapIter m33 si34 se35 st36) ∧
 (onM m33 (post (x30) w31) fun m37 =>
 (∃ (es38 : List En) (cl39 : Nat), mapAt w31 m37 .i64 es38 cl39 ∧ (se35 = #[] ∨ es38 = [] ∨ ∃ e ∈ es38, e.b < st36) ∧
 (∀ e40 ∈ es38, e40.b ∉ se35 → ∀ w41, (w41 = w31 ∨ w41 = w31.drew) →
 (withW (World.setObj w41 (⟨w.heap.size, 0, none⟩ : Addr).block (.mapIter (some m37) si34 (se35.push e40.b) cl39)) fun w43 =>
 ((⟨w.heap.size, 0, none⟩ : Addr).off = 0 ∧ ∃ (m44 si45 : Nat) (se46 : Array Nat) (st47 : Nat), w43.heap[(⟨w.heap.size, 0, none⟩ : Addr).block]? = some (.mapIter (some m44) si45 se46 st47) ∧ ∃ (es48 : List En), mapAt w43 m44 .i64 es48 st47 ∧ ∃ e49, se46.back? = some e49.b ∧ e49 ∈ es48 ∧ (∀ f ∈ es48, f.b = e49.b → f = e49) ∧ ∃ x50 : Int, e49.v = .int .i64 x50 ∧
 (withI (if (x50 : Int) < x30 then x50 else x30) fun i51 =>
 next32 (i51) w43)))) ∧
 ((∀ e ∈ es38, e.b < si34 → e.b ∈ se35) → ∀ w42, (w42 = w31 ∨ w42 = w31.drew) →
 post (x30) w42))))))))))))
theorem horizon_Book_Low_go {w : World} {a0 : Option Addr} {a1 : Int} {post : RT [.cell (.int .i64)] → World → Prop} (h : f_horizon_Book_Low a0 a1 w post) : c_horizon_Book_Low a0 a1 w post :=
 calls_of_vc tab_ok Tryz.func75 (by kernel_rfl) (Eq.mpr (by kernel_rfl) h)
/-- (*scarp/rset.View).Reads; loop over (out : SV, t12 : Int) -/
def f_rset_View_Reads (a0 : Option Addr) (w : World) (post : SV → World → Prop) : Prop :=
 (bsplit ((a0).isNone)
 (post (⟨none, 0, 0⟩) w)
 ((onP a0 fun p1 =>
 (∃ s2 : SV, (w.cell? (p1.add 4) = some (.slice s2.a s2.n s2.c)) ∧
 (loopR (α := SV × Int) (⟨none, 0, 0⟩, 0) w fun x3 w4 next5 =>
 (bsplit (decide ((x3.2 : Int) < ((s2.n : Nat) : Int)))
 ((0 ≤ (x3.2 : Int) ∧ (x3.2 : Int) < ((s2.n : Nat) : Int) ∧
 (onP s2.a fun p6 =>
 (∃ g7 : Int × SV × Bool, (w4.cell? (p6.add ((x3.2 : Int).toNat * 3)) = some (.int .i64 g7.1) ∧ w4.cell? ((p6.add ((x3.2 : Int).toNat * 3)).add 1) = some (.slice g7.2.1.a g7.2.1.n g7.2.1.c) ∧ w4.cell? ((p6.add ((x3.2 : Int).toNat * 3)).add 2) = some (.bool g7.2.2)) ∧
 (withW (w4.alloc (.cells #[.int .i64 0, .slice none 0 0, .bool false] 76)) fun w8 =>
 ((((∃ u, w8.cell? (⟨w4.heap.size, 0, none⟩ : Addr) = some u) ∧ w8.frozen? (⟨w4.heap.size, 0, none⟩ : Addr) = false) ∧ ((∃ u, w8.cell? ((⟨w4.heap.size, 0, none⟩ : Addr).add 1) = some u) ∧ w8.frozen? ((⟨w4.heap.size, 0, none⟩ : Addr).add 1) = false) ∧ ((∃ u, w8.cell? ((⟨w4.heap.size, 0, none⟩ : Addr).add 2) = some u) ∧ w8.frozen? ((⟨w4.heap.size, 0, none⟩ : Addr).add 2) = false)) ∧ (true = true) ∧
 (withW (((w8.setCell (⟨w4.heap.size, 0, none⟩ : Addr) (.int .i64 g7.1)).setCell ((⟨w4.heap.size, 0, none⟩ : Addr).add 1) (.slice g7.2.1.a g7.2.1.n g7.2.1.c)).setCell ((⟨w4.heap.size, 0, none⟩ : Addr).add 2) (.bool g7.2.2)) fun w9 =>
 (∃ s10 : SV, (w9.cell? ((⟨w4.heap.size, 0, none⟩ : Addr).add 1) = some (.slice s10.a s10.n s10.c)) ∧
 (c_slices_Clone_byte_byte s10 w9 fun (x11 : SV) w12 =>
 ((((∃ u, w12.cell? ((⟨w4.heap.size, 0, none⟩ : Addr).add 1) = some u) ∧ w12.frozen? ((⟨w4.heap.size, 0, none⟩ : Addr).add 1) = false)) ∧ (true = true) ∧
 (withW (w12.setCell ((⟨w4.heap.size, 0, none⟩ : Addr).add 1) (.slice x11.a x11.n x11.c)) fun w13 =>
 (∃ g14 : Int × SV × Bool, (w13.cell? (⟨w4.heap.size, 0, none⟩ : Addr) = some (.int .i64 g14.1) ∧ w13.cell? ((⟨w4.heap.size, 0, none⟩ : Addr).add 1) = some (.slice g14.2.1.a g14.2.1.n g14.2.1.c) ∧ w13.cell? ((⟨w4.heap.size, 0, none⟩ : Addr).add 2) = some (.bool g14.2.2)) ∧
 (withW (w13.alloc (.cells #[.int .i64 g14.1, .slice g14.2.1.a g14.2.1.n g14.2.1.c, .bool g14.2.2] 76)) fun w15 =>
 (appendR x3.1 (⟨(some (⟨w13.heap.size, 0, none⟩ : Addr)), 1, 1⟩) 3 40 [.int .i64 0, .slice none 0 0, .bool false] 76 w15 fun (s16 : SV) w17 =>
 next5 (⟨s16.a, s16.n, s16.c⟩, (IntKind.i64.wrap (x3.2 + 1))) w17))))))))))))))
 (post (⟨x3.1.a, x3.1.n, x3.1.c⟩) w4)))))))
theorem rset_View_Reads_go {w : World} {a0 : Option Addr} {post : RT [.cell (.slice)] → World → Prop} (h : f_rset_View_Reads a0 w post) : c_rset_View_Reads a0 w post :=
 calls_of_vc tab_ok Tryz.func76 (by kernel_rfl) (Eq.mpr (by kernel_rfl) h)
/-- (*scarp/wbuf.Buf).Puts; loop over (out : SV, t14 : Int) -/
def f_wbuf_Buf_Puts (a0 : Option Addr) (w : World) (post : SV → World → Prop) : Prop :=
 (bsplit ((a0).isNone)
 (post (⟨none, 0, 0⟩) w)
 ((onP a0 fun p1 =>
 (∃ r2 : Option Nat, (w.cell? (p1.add 2) = some (.map r2)) ∧
 (c_maps_Keys_map_int_byte_int_byte r2 w fun (x3 : (Option (Fn × Array Value × Array Value))) w4 =>
 (callsR Tryz.prog 109 #[(Sh.v (.func) x3)] [.cell (.slice)] w4 fun (x5 : SV) w6 =>
 (loopR (α := SV × Int) (⟨none, 0, 0⟩, 0) w6 fun x7 w8 next9 =>
 (bsplit (decide ((x7.2 : Int) < ((x5.n : Nat) : Int)))
 ((0 ≤ (x7.2 : Int) ∧ (x7.2 : Int) < ((x5.n : Nat) : Int) ∧
 (onP x5.a fun p10 =>
 (∃ n11 : Int, (w8.cell? (p10.add ((x7.2 : Int).toNat * 1)) = some (.int .i64 n11)) ∧
 (onP a0 fun p12 =>
 (∃ r13 : Option Nat, (w8.cell? (p12.add 2) = some (.map r13)) ∧
 ((true = true) ∧ (onM r13 ((c_slices_Clone_byte_byte (⟨none, 0, 0⟩) w8 fun (x15 : SV) w16 =>
 (withW (w16.alloc (.cells #[.int .i64 n11, .slice x15.a x15.n x15.c] 33)) fun w17 =>
 (appendR x7.1 (⟨(some (⟨w16.heap.size, 0, none⟩ : Addr)), 1, 1⟩) 2 32 [.int .i64 0, .slice none 0 0] 33 w17 fun (s18 : SV) w19 =>
 next9 (⟨s18.a, s18.n, s18.c⟩, (IntKind.i64.wrap (x7.2 + 1))) w19)))) fun m14 =>
 (∃ es20 : List En, (∃ cl21, mapAt w8 m14 .i64 es20 cl21) ∧ ∃ x22 : SV, (findE es20 n11).getD (.slice none 0 0) = .slice x22.a x22.n x22.c ∧
 (c_slices_Clone_byte_byte x22 w8 fun (x23 : SV) w24 =>
 (withW (w24.alloc (.cells #[.int .i64 n11, .slice x23.a x23.n x23.c] 33)) fun w25 =>
 (appendR x7.1 (⟨(some (⟨w24.heap.size, 0, none⟩ : Addr)), 1, 1⟩) 2 32 [.int .i64 0, .slice none 0 0] 33 w25 fun (s26 : SV) w27 =>
 next9 (⟨s26.a, s26.n, s26.c⟩, (IntKind.i64.wrap (x7.2 + 1))) w27))))))))))))
 (post (⟨x7.1.a, x7.1.n, x7.1.c⟩) w8)))))))))
theorem wbuf_Buf_Puts_go {w : World} {a0 : Option Addr} {post : RT [.cell (.slice)] → World → Prop} (h : f_wbuf_Buf_Puts a0 w post) : c_wbuf_Buf_Puts a0 w post :=
 calls_of_vc tab_ok Tryz.func77 (by kernel_rfl) (Eq.mpr (by kernel_rfl) h)
/-- (*scarp/horizon.Book).room -/
def f_horizon_Book_room (a0 : Option Addr) (w : World) (post : Int → World → Prop) : Prop :=
 (bsplit ((a0).isNone)
 (post (0) w)
 ((onP a0 fun p1 =>
 (∃ n2 : Int, (w.cell? p1 = some (.int .i64 n2)) ∧
 post (n2) w))))
theorem horizon_Book_room_go {w : World} {a0 : Option Addr} {post : RT [.cell (.int .i64)] → World → Prop} (h : f_horizon_Book_room a0 w post) : c_horizon_Book_room a0 w post :=
 calls_of_vc tab_ok Tryz.func93 (by kernel_rfl) (Eq.mpr (by kernel_rfl) h)
/-- scarp/ival.New -/
def f_ival_New (a0 : Int) (w : World) (post : ((Option Addr)) → World → Prop) : Prop :=
 (withW (w.alloc (.cells #[.int .i64 a0, .slice none 0 0] 207)) fun w1 =>
 post ((some (⟨w.heap.size, 0, none⟩ : Addr))) w1)
theorem ival_New_go {w : World} {a0 : Int} {post : RT [.cell (.ptr)] → World → Prop} (h : f_ival_New a0 w post) : c_ival_New a0 w post :=
 calls_of_vc tab_ok Tryz.func94 (by kernel_rfl) (Eq.mpr (by kernel_rfl) h)
/-- slices.ContainsFunc[[]scarp/api.Put,scarp/api.Put] -/
def f_slices_ContainsFunc_api_Put_api_Put_at_wbuf_Buf_Write_1 (a0 : SV) (a1c0 : Option Addr) (w : World) (post : Bool → World → Prop) : Prop :=
 (c_slices_IndexFunc_api_Put_api_Put_at_wbuf_Buf_Write_1 a0 a1c0 w fun (x1 : Int) w2 =>
 post ((decide ((0 : Int) ≤ x1))) w2)
theorem slices_ContainsFunc_api_Put_api_Put_at_wbuf_Buf_Write_1_go {w : World} {a0 : SV} {a1c0 : Option Addr} {post : RT [.cell (.bool)] → World → Prop} (h : f_slices_ContainsFunc_api_Put_api_Put_at_wbuf_Buf_Write_1 a0 a1c0 w post) : c_slices_ContainsFunc_api_Put_api_Put_at_wbuf_Buf_Write_1 a0 a1c0 w post :=
 calls_of_vc tab_ok Tryz.func95 (by kernel_rfl) (Eq.mpr (by kernel_rfl) h)
/-- slices.ContainsFunc[[]scarp/api.Put,scarp/api.Put] -/
def f_slices_ContainsFunc_api_Put_api_Put_at_wbuf_Buf_Write_2 (a0 : SV) (w : World) (post : Bool → World → Prop) : Prop :=
 (c_slices_IndexFunc_api_Put_api_Put_at_wbuf_Buf_Write_2 a0 w fun (x1 : Int) w2 =>
 post ((decide ((0 : Int) ≤ x1))) w2)
theorem slices_ContainsFunc_api_Put_api_Put_at_wbuf_Buf_Write_2_go {w : World} {a0 : SV} {post : RT [.cell (.bool)] → World → Prop} (h : f_slices_ContainsFunc_api_Put_api_Put_at_wbuf_Buf_Write_2 a0 w post) : c_slices_ContainsFunc_api_Put_api_Put_at_wbuf_Buf_Write_2 a0 w post :=
 calls_of_vc tab_ok Tryz.func95 (by kernel_rfl) (Eq.mpr (by kernel_rfl) h)
/-- slices.ContainsFunc[[]scarp/api.Put,scarp/api.Put] -/
def f_slices_ContainsFunc_api_Put_api_Put_at_extmap_Map_Apply_1 (a0 : SV) (w : World) (post : Bool → World → Prop) : Prop :=
 (c_slices_IndexFunc_api_Put_api_Put_at_extmap_Map_Apply_1 a0 w fun (x1 : Int) w2 =>
 post ((decide ((0 : Int) ≤ x1))) w2)
theorem slices_ContainsFunc_api_Put_api_Put_at_extmap_Map_Apply_1_go {w : World} {a0 : SV} {post : RT [.cell (.bool)] → World → Prop} (h : f_slices_ContainsFunc_api_Put_api_Put_at_extmap_Map_Apply_1 a0 w post) : c_slices_ContainsFunc_api_Put_api_Put_at_extmap_Map_Apply_1 a0 w post :=
 calls_of_vc tab_ok Tryz.func95 (by kernel_rfl) (Eq.mpr (by kernel_rfl) h)
/-- slices.ContainsFunc[[]scarp/api.Put,scarp/api.Put] -/
def f_slices_ContainsFunc_api_Put_api_Put_at_valid_Against_1 (a0 : SV) (a1c0 : Option Addr) (w : World) (post : Bool → World → Prop) : Prop :=
 (c_slices_IndexFunc_api_Put_api_Put_at_valid_Against_1 a0 a1c0 w fun (x1 : Int) w2 =>
 post ((decide ((0 : Int) ≤ x1))) w2)
theorem slices_ContainsFunc_api_Put_api_Put_at_valid_Against_1_go {w : World} {a0 : SV} {a1c0 : Option Addr} {post : RT [.cell (.bool)] → World → Prop} (h : f_slices_ContainsFunc_api_Put_api_Put_at_valid_Against_1 a0 a1c0 w post) : c_slices_ContainsFunc_api_Put_api_Put_at_valid_Against_1 a0 a1c0 w post :=
 calls_of_vc tab_ok Tryz.func95 (by kernel_rfl) (Eq.mpr (by kernel_rfl) h)
/-- (*scarp/wbuf.Buf).Write$1 -/
def f_wbuf_Buf_Write_1 (a0c0 : Int) (a0c1 : SV) (c0 : Option Addr) (w : World) (post : Bool → World → Prop) : Prop :=
 (withW (w.alloc (.cells #[.int .i64 a0c0, .slice a0c1.a a0c1.n a0c1.c] 33)) fun w1 =>
 (withW w1.drew fun w2 =>
 (∃ n3 : Int, (w2.cell? (⟨w.heap.size, 0, none⟩ : Addr) = some (.int .i64 n3)) ∧
 (bsplit (decide ((n3 : Int) < 0))
 (post (true) w2)
 ((∃ n4 : Int, (w2.cell? (⟨w.heap.size, 0, none⟩ : Addr) = some (.int .i64 n4)) ∧
 (onP c0 fun p5 =>
 (∃ q6 : Option Addr, (w2.cell? p5 = some (.pointer q6)) ∧
 (onP q6 fun p7 =>
 (∃ n8 : Int, (w2.cell? p7 = some (.int .i64 n8)) ∧
 post ((decide ((n8 : Int) ≤ n4))) w2))))))))))
theorem wbuf_Buf_Write_1_go {w : World} {a0c0 : Int} {a0c1 : SV} {c0 : Option Addr} {post : RT [.cell (.bool)] → World → Prop} (h : f_wbuf_Buf_Write_1 a0c0 a0c1 c0 w post) : c_wbuf_Buf_Write_1 a0c0 a0c1 c0 w post :=
 calls_of_vc tab_ok Tryz.func96 (by kernel_rfl) (Eq.mpr (by kernel_rfl) h)
/-- (*scarp/wbuf.Buf).Write$2 -/
def f_wbuf_Buf_Write_2 (a0c0 : Int) (a0c1 : SV) (w : World) (post : Bool → World → Prop) : Prop :=
 (withW (w.alloc (.cells #[.int .i64 a0c0, .slice a0c1.a a0c1.n a0c1.c] 33)) fun w1 =>
 (∃ s2 : SV, (w1.cell? ((⟨w.heap.size, 0, none⟩ : Addr).add 1) = some (.slice s2.a s2.n s2.c)) ∧
 post ((!decide ((((s2.n : Nat) : Int) : Int) = 40))) w1))
theorem wbuf_Buf_Write_2_go {w : World} {a0c0 : Int} {a0c1 : SV} {post : RT [.cell (.bool)] → World → Prop} (h : f_wbuf_Buf_Write_2 a0c0 a0c1 w post) : c_wbuf_Buf_Write_2 a0c0 a0c1 w post :=
 calls_of_vc tab_ok Tryz.func97 (by kernel_rfl) (Eq.mpr (by kernel_rfl) h)
/-- scarp/wbuf.twice; loop over (t2 : Bool, t9 : Int) -/
def f_wbuf_twice (a0 : SV) (w : World) (post : Bool → World → Prop) : Prop :=
 (withW (w.alloc (.map #[] 0)) fun w1 =>
 (loopR (α := Bool × Int) (false, 0) w1 fun x2 w3 next4 =>
 (bsplit (decide ((x2.2 : Int) < ((a0.n : Nat) : Int)))
 ((0 ≤ (x2.2 : Int) ∧ (x2.2 : Int) < ((a0.n : Nat) : Int) ∧
 (onP a0.a fun p5 =>
 (∃ g6 : Int × SV, (w3.cell? (p5.add ((x2.2 : Int).toNat * 2)) = some (.int .i64 g6.1) ∧ w3.cell? ((p5.add ((x2.2 : Int).toNat * 2)).add 1) = some (.slice g6.2.a g6.2.n g6.2.c)) ∧
 (withW (w3.alloc (.cells #[.int .i64 0, .slice none 0 0] 33)) fun w7 =>
 ((((∃ u, w7.cell? (⟨w3.heap.size, 0, none⟩ : Addr) = some u) ∧ w7.frozen? (⟨w3.heap.size, 0, none⟩ : Addr) = false) ∧ ((∃ u, w7.cell? ((⟨w3.heap.size, 0, none⟩ : Addr).add 1) = some u) ∧ w7.frozen? ((⟨w3.heap.size, 0, none⟩ : Addr).add 1) = false)) ∧ (true = true) ∧
 (withW ((w7.setCell (⟨w3.heap.size, 0, none⟩ : Addr) (.int .i64 g6.1)).setCell ((⟨w3.heap.size, 0, none⟩ : Addr).add 1) (.slice g6.2.a g6.2.n g6.2.c)) fun w8 =>
 (∃ n9 : Int, (w8.cell? (⟨w3.heap.size, 0, none⟩ : Addr) = some (.int .i64 n9)) ∧
 ((true = true) ∧ (∃ es10 : List En, (∃ cl11, mapAt w8 w.heap.size .i64 es10 cl11) ∧ ∃ x12 : Int, (findE es10 n9).getD (.int .i64 0) = .int .i64 x12 ∧
 ((true = true) ∧ (∃ (es13 : List En) (cl14 : Nat), mapAt w8 w.heap.size .i64 es13 cl14 ∧
 (withW (World.setObj w8 w.heap.size (.map (entries .i64 (putM es13 cl14 n9 (.int .i64 (IntKind.i64.wrap (x12 + 1))))) (putClock es13 cl14 n9))) fun w15 =>
 (∃ n16 : Int, (w15.cell? (⟨w3.heap.size, 0, none⟩ : Addr) = some (.int .i64 n16)) ∧
 ((true = true) ∧ (∃ es17 : List En, (∃ cl18, mapAt w15 w.heap.size .i64 es17 cl18) ∧ ∃ x19 : Int, (findE es17 n16).getD (.int .i64 0) = .int .i64 x19 ∧
 (bsplit (decide ((x19 : Int) = 1))
 (next4 (x2.1, (IntKind.i64.wrap (x2.2 + 1))) w15)
 (post (true) w15))))))))))))))))))
 (post (false) w3))))
theorem wbuf_twice_go {w : World} {a0 : SV} {post : RT [.cell (.bool)] → World → Prop} (h : f_wbuf_twice a0 w post) : c_wbuf_twice a0 w post :=
 calls_of_vc tab_ok Tryz.func98 (by kernel_rfl) (Eq.mpr (by kernel_rfl) h)
/-- slices.Clone[[]byte,byte] -/
def f_slices_Clone_byte_byte (a0 : SV) (w : World) (post : SV → World → Prop) : Prop :=
 (bsplit ((a0.a).isNone)
 (post (⟨none, 0, 0⟩) w)
 ((withW (w.alloc (.cells #[] 5)) fun w1 =>
 (appendR (⟨(some (⟨w.heap.size, 0, none⟩ : Addr)), 0, 0⟩) a0 1 1 [.int .u8 0] 5 w1 fun (s2 : SV) w3 =>
 post (⟨s2.a, s2.n, s2.c⟩) w3))))
theorem slices_Clone_byte_byte_go {w : World} {a0 : SV} {post : RT [.cell (.slice)] → World → Prop} (h : f_slices_Clone_byte_byte a0 w post) : c_slices_Clone_byte_byte a0 w post :=
 calls_of_vc tab_ok Tryz.func99 (by kernel_rfl) (Eq.mpr (by kernel_rfl) h)
/-- (*scarp/horizon.Book).Close -/
def f_horizon_Book_Close (a0 : Option Addr) (a1 : Int) (w : World) (post : Int → World → Prop) : Prop :=
 (c_horizon_Book_At a0 a1 w fun (x1 : Int × Int) w2 =>
 (bsplit (!decide ((x1.2 : Int) = 0))
 (post (x1.2) w2)
 ((onP a0 fun p3 =>
 (∃ r4 : Option Nat, (w2.cell? (p3.add 2) = some (.map r4)) ∧
 ((true = true) ∧ (onM r4 (post (0) w2) fun m5 =>
 (∃ (es6 : List En) (cl7 : Nat), mapAt w2 m5 .i64 es6 cl7 ∧
 (withW (World.setObj w2 m5 (.map (entries .i64 (delE es6 a1)) cl7)) fun w8 =>
 post (0) w8)))))))))
theorem horizon_Book_Close_go {w : World} {a0 : Option Addr} {a1 : Int} {post : RT [.cell (.int .i64)] → World → Prop} (h : f_horizon_Book_Close a0 a1 w post) : c_horizon_Book_Close a0 a1 w post :=
 calls_of_vc tab_ok Tryz.func100 (by kernel_rfl) (Eq.mpr (by kernel_rfl) h)
/-- scarp/valid.Check; loop over (t11 : Int, t25 : Int); loop over (t11 : Int, t31 : Int); loop over (t11 : Int, t59 : Int) -/
def f_valid_Check (a0 : Option Addr) (a1 : SV) (a2 : Int) (a3 : Option Addr) (a4 : Option Addr) (w : World) (post : Int → World → Prop) : Prop :=
 (c_ival_Set_Count a4 w fun (x1 : Int) w2 =>
 (bsplit (decide ((x1 : Int) = 0))
 (post (0) w2)
 ((loopR (α := Int × Int) (0, 0) w2 fun x3 w4 next5 =>
 (bsplit (decide ((x3.2 : Int) < 2))
 ((0 ≤ (x3.2 : Int) ∧ (x3.2 : Int) < ((2 : Nat) : Int) ∧ ∃ v6 : Option Addr, (#[.pointer a3, .pointer a4] : Array Value)[(x3.2 : Int).toNat * 1]? = some (.pointer v6) ∧
 (c_ival_Set_Extents v6 w4 fun (x7 : SV) w8 =>
 (loopR (α := Int × Int) (x3.1, 0) w8 fun x9 w10 next11 =>
 (bsplit (decide ((x9.2 : Int) < ((x7.n : Nat) : Int)))
 ((0 ≤ (x9.2 : Int) ∧ (x9.2 : Int) < ((x7.n : Nat) : Int) ∧
 (onP x7.a fun p12 =>
 (∃ g13 : Int × Int, (w10.cell? (p12.add ((x9.2 : Int).toNat * 2)) = some (.int .i64 g13.1) ∧ w10.cell? ((p12.add ((x9.2 : Int).toNat * 2)).add 1) = some (.int .i64 g13.2)) ∧
 (withW (w10.alloc (.cells #[.int .i64 0, .int .i64 0] 56)) fun w14 =>
 ((((∃ u, w14.cell? (⟨w10.heap.size, 0, none⟩ : Addr) = some u) ∧ w14.frozen? (⟨w10.heap.size, 0, none⟩ : Addr) = false) ∧ ((∃ u, w14.cell? ((⟨w10.heap.size, 0, none⟩ : Addr).add 1) = some u) ∧ w14.frozen? ((⟨w10.heap.size, 0, none⟩ : Addr).add 1) = false)) ∧ (true = true) ∧
 (withW ((w14.setCell (⟨w10.heap.size, 0, none⟩ : Addr) (.int .i64 g13.1)).setCell ((⟨w10.heap.size, 0, none⟩ : Addr).add 1) (.int .i64 g13.2)) fun w15 =>
 (∃ n16 : Int, (w15.cell? (⟨w10.heap.size, 0, none⟩ : Addr) = some (.int .i64 n16)) ∧
 (∃ n17 : Int, (w15.cell? ((⟨w10.heap.size, 0, none⟩ : Addr).add 1) = some (.int .i64 n17)) ∧
 (withW (w15.alloc (.cells #[.int .i64 0, .int .i64 0] 56)) fun w18 =>
 ((((∃ u, w18.cell? (⟨w15.heap.size, 0, none⟩ : Addr) = some u) ∧ w18.frozen? (⟨w15.heap.size, 0, none⟩ : Addr) = false) ∧ ((∃ u, w18.cell? ((⟨w15.heap.size, 0, none⟩ : Addr).add 1) = some u) ∧ w18.frozen? ((⟨w15.heap.size, 0, none⟩ : Addr).add 1) = false)) ∧ (true = true) ∧
 (withW ((w18.setCell (⟨w15.heap.size, 0, none⟩ : Addr) (.int .i64 (IntKind.i64.wrap ((IntKind.i64.wrap (n16 + n17)) - 1)))).setCell ((⟨w15.heap.size, 0, none⟩ : Addr).add 1) (.int .i64 1)) fun w19 =>
 (∃ n20 : Int, (w19.cell? ((⟨w10.heap.size, 0, none⟩ : Addr).add 1) = some (.int .i64 n20)) ∧
 ((((∃ u, w19.cell? ((⟨w10.heap.size, 0, none⟩ : Addr).add 1) = some u) ∧ w19.frozen? ((⟨w10.heap.size, 0, none⟩ : Addr).add 1) = false)) ∧ (true = true) ∧
 (withW (w19.setCell ((⟨w10.heap.size, 0, none⟩ : Addr).add 1) (.int .i64 (if (1048576 : Int) < n20 then 1048576 else n20))) fun w21 =>
 (∃ g22 : Int × Int, (w21.cell? (⟨w10.heap.size, 0, none⟩ : Addr) = some (.int .i64 g22.1) ∧ w21.cell? ((⟨w10.heap.size, 0, none⟩ : Addr).add 1) = some (.int .i64 g22.2)) ∧
 (c_extmap_Map_Written a0 g22.1 g22.2 a2 w21 fun (x23 : Bool) w24 =>
 (bsplit x23
 (post (8) w24)
 ((∃ g25 : Int × Int, (w24.cell? (⟨w15.heap.size, 0, none⟩ : Addr) = some (.int .i64 g25.1) ∧ w24.cell? ((⟨w15.heap.size, 0, none⟩ : Addr).add 1) = some (.int .i64 g25.2)) ∧
 (c_extmap_Map_Written a0 g25.1 g25.2 a2 w24 fun (x26 : Bool) w27 =>
 (bsplit x26
 (post (8) w27)
 (next11 (x9.1, (IntKind.i64.wrap (x9.2 + 1))) w27)))))))))))))))))))))))
 ((loopR (α := Int × Int) (x9.1, 0) w10 fun x28 w29 next30 =>
 (bsplit (decide ((x28.2 : Int) < ((a1.n : Nat) : Int)))
 ((0 ≤ (x28.2 : Int) ∧ (x28.2 : Int) < ((a1.n : Nat) : Int) ∧
 (onP a1.a fun p31 =>
 (∃ g32 : Int × SV, (w29.cell? (p31.add ((x28.2 : Int).toNat * 2)) = some (.int .i64 g32.1) ∧ w29.cell? ((p31.add ((x28.2 : Int).toNat * 2)).add 1) = some (.slice g32.2.a g32.2.n g32.2.c)) ∧
 (withW (w29.alloc (.cells #[.int .i64 0, .slice none 0 0] 70)) fun w33 =>
 ((((∃ u, w33.cell? (⟨w29.heap.size, 0, none⟩ : Addr) = some u) ∧ w33.frozen? (⟨w29.heap.size, 0, none⟩ : Addr) = false) ∧ ((∃ u, w33.cell? ((⟨w29.heap.size, 0, none⟩ : Addr).add 1) = some u) ∧ w33.frozen? ((⟨w29.heap.size, 0, none⟩ : Addr).add 1) = false)) ∧ (true = true) ∧
 (withW ((w33.setCell (⟨w29.heap.size, 0, none⟩ : Addr) (.int .i64 g32.1)).setCell ((⟨w29.heap.size, 0, none⟩ : Addr).add 1) (.slice g32.2.a g32.2.n g32.2.c)) fun w34 =>
 (∃ g35 : Int × SV, (w34.cell? (⟨w29.heap.size, 0, none⟩ : Addr) = some (.int .i64 g35.1) ∧ w34.cell? ((⟨w29.heap.size, 0, none⟩ : Addr).add 1) = some (.slice g35.2.a g35.2.n g35.2.c)) ∧
 (c_valid_Against g35.1 g35.2 v6 w34 fun (x36 : Bool) w37 =>
 (bsplit x36
 (post (8) w37)
 (next30 (x28.1, (IntKind.i64.wrap (x28.2 + 1))) w37)))))))))))
 (next5 (x28.1, (IntKind.i64.wrap (x3.2 + 1))) w29)))))))))
 (post (x3.1) w4))))))
theorem valid_Check_go {w : World} {a0 : Option Addr} {a1 : SV} {a2 : Int} {a3 : Option Addr} {a4 : Option Addr} {post : RT [.cell (.int .i64)] → World → Prop} (h : f_valid_Check a0 a1 a2 a3 a4 w post) : c_valid_Check a0 a1 a2 a3 a4 w post :=
 calls_of_vc tab_ok Tryz.func101 (by kernel_rfl) (Eq.mpr (by kernel_rfl) h)
/-- (*scarp/rset.View).Set -/
def f_rset_View_Set (a0 : Option Addr) (w : World) (post : ((Option Addr)) → World → Prop) : Prop :=
 (c_ival_New 64 w fun (x1 : (Option Addr)) w2 =>
 (bsplit (!(a0).isNone)
 ((onP a0 fun p3 =>
 (∃ q4 : Option Addr, (w2.cell? (p3.add 3) = some (.pointer q4)) ∧
 (c_ival_Set_Extents q4 w2 fun (x5 : SV) w6 =>
 (c_ival_Set_Add x1 x5 w6 fun (x7 : Int) w8 =>
 post (x1) w8)))))
 (post (x1) w2)))
theorem rset_View_Set_go {w : World} {a0 : Option Addr} {post : RT [.cell (.ptr)] → World → Prop} (h : f_rset_View_Set a0 w post) : c_rset_View_Set a0 w post :=
 calls_of_vc tab_ok Tryz.func102 (by kernel_rfl) (Eq.mpr (by kernel_rfl) h)
/-- (*scarp/wbuf.Buf).Set; loop over (t14 : Int) -/
def f_wbuf_Buf_Set (a0 : Option Addr) (w : World) (post : ((Option Addr)) → World → Prop) : Prop :=
 (c_wbuf_Buf_Puts a0 w fun (x1 : SV) w2 =>
 (c_ival_New ((x1.n : Nat) : Int) w2 fun (x3 : (Option Addr)) w4 =>
 (loopR (α := Int) (0) w4 fun x5 w6 next7 =>
 (bsplit (decide ((x5 : Int) < ((x1.n : Nat) : Int)))
 ((0 ≤ (x5 : Int) ∧ (x5 : Int) < ((x1.n : Nat) : Int) ∧
 (onP x1.a fun p8 =>
 (∃ g9 : Int × SV, (w6.cell? (p8.add ((x5 : Int).toNat * 2)) = some (.int .i64 g9.1) ∧ w6.cell? ((p8.add ((x5 : Int).toNat * 2)).add 1) = some (.slice g9.2.a g9.2.n g9.2.c)) ∧
 (withW (w6.alloc (.cells #[.int .i64 0, .slice none 0 0] 33)) fun w10 =>
 ((((∃ u, w10.cell? (⟨w6.heap.size, 0, none⟩ : Addr) = some u) ∧ w10.frozen? (⟨w6.heap.size, 0, none⟩ : Addr) = false) ∧ ((∃ u, w10.cell? ((⟨w6.heap.size, 0, none⟩ : Addr).add 1) = some u) ∧ w10.frozen? ((⟨w6.heap.size, 0, none⟩ : Addr).add 1) = false)) ∧ (true = true) ∧
 (withW ((w10.setCell (⟨w6.heap.size, 0, none⟩ : Addr) (.int .i64 g9.1)).setCell ((⟨w6.heap.size, 0, none⟩ : Addr).add 1) (.slice g9.2.a g9.2.n g9.2.c)) fun w11 =>
 (∃ n12 : Int, (w11.cell? (⟨w6.heap.size, 0, none⟩ : Addr) = some (.int .i64 n12)) ∧
 (withW (w11.alloc (.cells #[.int .i64 n12, .int .i64 1] 56)) fun w13 =>
 (c_ival_Set_Add x3 (⟨(some (⟨w11.heap.size, 0, none⟩ : Addr)), 1, 1⟩) w13 fun (x14 : Int) w15 =>
 next7 ((IntKind.i64.wrap (x5 + 1))) w15))))))))))
 (post (x3) w6)))))
theorem wbuf_Buf_Set_go {w : World} {a0 : Option Addr} {post : RT [.cell (.ptr)] → World → Prop} (h : f_wbuf_Buf_Set a0 w post) : c_wbuf_Buf_Set a0 w post :=
 calls_of_vc tab_ok Tryz.func103 (by kernel_rfl) (Eq.mpr (by kernel_rfl) h)
/-- (*scarp/horizon.Book).List -/
def f_horizon_Book_List (a0 : Option Addr) (w : World) (post : SV → World → Prop) : Prop :=
 (bsplit ((a0).isNone)
 (post (⟨none, 0, 0⟩) w)
 ((onP a0 fun p1 =>
 (∃ r2 : Option Nat, (w.cell? (p1.add 2) = some (.map r2)) ∧
 (c_maps_Keys_map_int_int_int_int r2 w fun (x3 : (Option (Fn × Array Value × Array Value))) w4 =>
 (callsR Tryz.prog 109 #[(Sh.v (.func) x3)] [.cell (.slice)] w4 fun (x5 : SV) w6 =>
 post (⟨x5.a, x5.n, x5.c⟩) w6))))))
theorem horizon_Book_List_go {w : World} {a0 : Option Addr} {post : RT [.cell (.slice)] → World → Prop} (h : f_horizon_Book_List a0 w post) : c_horizon_Book_List a0 w post :=
 calls_of_vc tab_ok Tryz.func104 (by kernel_rfl) (Eq.mpr (by kernel_rfl) h)
/-- (*scarp/extmap.Map).gone -/
def f_extmap_Map_gone (a0 : Option Addr) (w : World) (post : Bool → World → Prop) : Prop :=
 (bsplit ((a0).isNone)
 (post (true) w)
 ((onP a0 fun p1 =>
 (∃ n2 : Int, (w.cell? p1 = some (.int .i64 n2)) ∧
 post ((decide ((n2 : Int) = 0))) w))))
theorem extmap_Map_gone_go {w : World} {a0 : Option Addr} {post : RT [.cell (.bool)] → World → Prop} (h : f_extmap_Map_gone a0 w post) : c_extmap_Map_gone a0 w post :=
 calls_of_vc tab_ok Tryz.func105 (by kernel_rfl) (Eq.mpr (by kernel_rfl) h)
/-- scarp/extmap.rise; loop over (t2 : Bool, i : Int) -/
def f_extmap_rise (a0 : SV) (w : World) (post : Bool → World → Prop) : Prop :=
 (loopR (α := Bool × Int) (false, 1) w fun x1 w2 next3 =>
 (bsplit (decide ((x1.2 : Int) < ((a0.n : Nat) : Int)))
 ((withW w2.drew fun w4 =>
 (0 ≤ (x1.2 : Int) ∧ (x1.2 : Int) < ((a0.n : Nat) : Int) ∧
 (onP a0.a fun p5 =>
 (∃ n6 : Int, (w4.cell? (p5.add ((x1.2 : Int).toNat * 2)) = some (.int .i64 n6)) ∧
 (0 ≤ ((IntKind.i64.wrap (x1.2 - 1)) : Int) ∧ ((IntKind.i64.wrap (x1.2 - 1)) : Int) < ((a0.n : Nat) : Int) ∧
 (onP a0.a fun p7 =>
 (∃ n8 : Int, (w4.cell? (p7.add (((IntKind.i64.wrap (x1.2 - 1)) : Int).toNat * 2)) = some (.int .i64 n8)) ∧
 (bsplit (decide ((n6 : Int) ≤ n8))
 (post (false) w4)
 (next3 (x1.1, (IntKind.i64.wrap (x1.2 + 1))) w4))))))))))
 (post ((decide ((0 : Int) < ((a0.n : Nat) : Int)))) w2)))
theorem extmap_rise_go {w : World} {a0 : SV} {post : RT [.cell (.bool)] → World → Prop} (h : f_extmap_rise a0 w post) : c_extmap_rise a0 w post :=
 calls_of_vc tab_ok Tryz.func106 (by kernel_rfl) (Eq.mpr (by kernel_rfl) h)
/-- (*scarp/extmap.Map).block -/
def f_extmap_Map_block (a0 : Option Addr) (a1 : Int) (w : World) (post : Bool → World → Prop) : Prop :=
 (bsplit (decide ((0 : Int) ≤ a1))
 ((c_extmap_Map_Blocks a0 w fun (x1 : Int) w2 =>
 post ((decide ((a1 : Int) < x1))) w2))
 (post (false) w))
theorem extmap_Map_block_go {w : World} {a0 : Option Addr} {a1 : Int} {post : RT [.cell (.bool)] → World → Prop} (h : f_extmap_Map_block a0 a1 w post) : c_extmap_Map_block a0 a1 w post :=
 calls_of_vc tab_ok Tryz.func107 (by kernel_rfl) (Eq.mpr (by kernel_rfl) h)
/-- (*scarp/extmap.Map).Apply$1 -/
def f_extmap_Map_Apply_1 (a0c0 : Int) (a0c1 : SV) (w : World) (post : Bool → World → Prop) : Prop :=
 (withW (w.alloc (.cells #[.int .i64 a0c0, .slice a0c1.a a0c1.n a0c1.c] 33)) fun w1 =>
 (∃ s2 : SV, (w1.cell? ((⟨w.heap.size, 0, none⟩ : Addr).add 1) = some (.slice s2.a s2.n s2.c)) ∧
 post ((!decide ((((s2.n : Nat) : Int) : Int) = 40))) w1))
theorem extmap_Map_Apply_1_go {w : World} {a0c0 : Int} {a0c1 : SV} {post : RT [.cell (.bool)] → World → Prop} (h : f_extmap_Map_Apply_1 a0c0 a0c1 w post) : c_extmap_Map_Apply_1 a0c0 a0c1 w post :=
 calls_of_vc tab_ok Tryz.func108 (by kernel_rfl) (Eq.mpr (by kernel_rfl) h)
/-- (*scarp/extmap.Map).Range; loop over (out : SV, t17 : Int) -/
def f_extmap_Map_Range (a0 : Option Addr) (a1c0 : Int) (a1c1 : Int) (a2 : Int) (w : World) (post : (SV × Int) → World → Prop) : Prop :=
 (withW (w.alloc (.cells #[.int .i64 a1c0, .int .i64 a1c1] 56)) fun w1 =>
 (∃ g2 : Int × Int, (w1.cell? (⟨w.heap.size, 0, none⟩ : Addr) = some (.int .i64 g2.1) ∧ w1.cell? ((⟨w.heap.size, 0, none⟩ : Addr).add 1) = some (.int .i64 g2.2)) ∧
 (c_extmap_Map_within a0 g2.1 g2.2 w1 fun (x3 : Bool) w4 =>
 (bsplit (!x3)
 (post (⟨none, 0, 0⟩, 2) w4)
 ((∃ n5 : Int, (w4.cell? ((⟨w.heap.size, 0, none⟩ : Addr).add 1) = some (.int .i64 n5)) ∧
 (loopR (α := SV × Int) (⟨none, 0, 0⟩, 0) w4 fun x6 w7 next8 =>
 (bsplit (decide ((x6.2 : Int) < n5))
 ((∃ n9 : Int, (w7.cell? (⟨w.heap.size, 0, none⟩ : Addr) = some (.int .i64 n9)) ∧
 (c_extmap_Map_Get a0 (IntKind.i64.wrap (n9 + x6.2)) a2 w7 fun (x10 : SV × Int) w11 =>
 (appendR x6.1 x10.1 1 1 [.int .u8 0] 5 w11 fun (s12 : SV) w13 =>
 next8 (⟨s12.a, s12.n, s12.c⟩, (IntKind.i64.wrap (x6.2 + 1))) w13))))
 (post (⟨x6.1.a, x6.1.n, x6.1.c⟩, 0) w7)))))))))
theorem extmap_Map_Range_go {w : World} {a0 : Option Addr} {a1c0 : Int} {a1c1 : Int} {a2 : Int} {post : RT [.cell (.slice), .cell (.int .i64)] → World → Prop} (h : f_extmap_Map_Range a0 a1c0 a1c1 a2 w post) : c_extmap_Map_Range a0 a1c0 a1c1 a2 w post :=
 calls_of_vc tab_ok Tryz.func111 (by kernel_rfl) (Eq.mpr (by kernel_rfl) h)
/-- (*scarp/ival.Set).Add -/
def f_ival_Set_Add (a0 : Option Addr) (a1 : SV) (w : World) (post : Int → World → Prop) : Prop :=
 (c_ival_all a1 w fun (x1 : Bool) w2 =>
 (bsplit (!x1)
 (post (1) w2)
 ((bsplit (decide ((((a1.n : Nat) : Int) : Int) = 0))
 (post (0) w2)
 ((bsplit ((a0).isNone)
 (post (7) w2)
 ((onP a0 fun p3 =>
 (∃ s4 : SV, (w2.cell? (p3.add 1) = some (.slice s4.a s4.n s4.c)) ∧
 (withW (w2.alloc (.cells #[.slice s4.a s4.n s4.c, .slice a1.a a1.n a1.c] 153)) fun w5 =>
 (c_slices_Concat_api_Extent_api_Extent (⟨(some (⟨w2.heap.size, 0, none⟩ : Addr)), 2, 2⟩) w5 fun (x6 : SV) w7 =>
 (c_ival_joined x6 w7 fun (x8 : SV) w9 =>
 (onP a0 fun p10 =>
 (∃ n11 : Int, (w9.cell? p10 = some (.int .i64 n11)) ∧
 (bsplit (decide ((n11 : Int) < ((x8.n : Nat) : Int)))
 (post (7) w9)
 ((onP a0 fun p12 =>
 ((((∃ u, w9.cell? (p12.add 1) = some u) ∧ w9.frozen? (p12.add 1) = false)) ∧ (true = true) ∧
 (withW (w9.setCell (p12.add 1) (.slice x8.a x8.n x8.c)) fun w13 =>
 post (0) w13)))))))))))))))))))
theorem ival_Set_Add_go {w : World} {a0 : Option Addr} {a1 : SV} {post : RT [.cell (.int .i64)] → World → Prop} (h : f_ival_Set_Add a0 a1 w post) : c_ival_Set_Add a0 a1 w post :=
 calls_of_vc tab_ok Tryz.func112 (by kernel_rfl) (Eq.mpr (by kernel_rfl) h)
/-- (*scarp/wbuf.Buf).Get -/
def f_wbuf_Buf_Get (a0 : Option Addr) (a1 : Int) (w : World) (post : (SV × Bool) → World → Prop) : Prop :=
 (bsplit ((a0).isNone)
 (post (⟨none, 0, 0⟩, false) w)
 ((onP a0 fun p1 =>
 (∃ r2 : Option Nat, (w.cell? (p1.add 2) = some (.map r2)) ∧
 ((true = true) ∧ (onM r2 ((c_slices_Clone_byte_byte (⟨none, 0, 0⟩) w fun (x4 : SV) w5 =>
 post (⟨x4.a, x4.n, x4.c⟩, false) w5)) fun m3 =>
 (∃ es6 : List En, (∃ cl7, mapAt w m3 .i64 es6 cl7) ∧ ∃ x8 : SV, (findE es6 a1).getD (.slice none 0 0) = .slice x8.a x8.n x8.c ∧
 (c_slices_Clone_byte_byte x8 w fun (x9 : SV) w10 =>
 post (⟨x9.a, x9.n, x9.c⟩, (findE es6 a1).isSome) w10))))))))
theorem wbuf_Buf_Get_go {w : World} {a0 : Option Addr} {a1 : Int} {post : RT [.cell (.slice), .cell (.bool)] → World → Prop} (h : f_wbuf_Buf_Get a0 a1 w post) : c_wbuf_Buf_Get a0 a1 w post :=
 calls_of_vc tab_ok Tryz.func113 (by kernel_rfl) (Eq.mpr (by kernel_rfl) h)
/-- (*scarp/extmap.Map).at; loop over (i : Int); loop over (i : Int) -/
def f_extmap_Map_at (a0 : Option Addr) (a1 : Int) (a2 : Int) (w : World) (post : Int → World → Prop) : Prop :=
 (onP a0 fun p1 =>
 (∃ r2 : Option Nat, (w.cell? (p1.add 1) = some (.map r2)) ∧
 ((true = true) ∧ (onM r2 ((withI (IntKind.i64.wrap (((0 : Nat) : Int) - 1)) fun i4 =>
 (loopR (α := Int) (i4) w fun x5 w6 next7 =>
 (bsplit (decide ((0 : Int) ≤ x5))
 ((0 ≤ (x5 : Int) ∧ (x5 : Int) < ((0 : Nat) : Int) ∧
 False))
 (post (x5) w6))))) fun m3 =>
 (∃ es8 : List En, (∃ cl9, mapAt w m3 .i64 es8 cl9) ∧ ∃ x10 : SV, (findE es8 a1).getD (.slice none 0 0) = .slice x10.a x10.n x10.c ∧
 (withI (IntKind.i64.wrap (((x10.n : Nat) : Int) - 1)) fun i11 =>
 (loopR (α := Int) (i11) w fun x12 w13 next14 =>
 (bsplit (decide ((0 : Int) ≤ x12))
 ((0 ≤ (x12 : Int) ∧ (x12 : Int) < ((x10.n : Nat) : Int) ∧
 (onP x10.a fun p15 =>
 (∃ n16 : Int, (w13.cell? (p15.add ((x12 : Int).toNat * 2)) = some (.int .i64 n16)) ∧
 (bsplit (decide ((n16 : Int) ≤ a2))
 (post (x12) w13)
 (next14 ((IntKind.i64.wrap (x12 - 1))) w13))))))
 (post (x12) w13)))))))))
theorem extmap_Map_at_go {w : World} {a0 : Option Addr} {a1 : Int} {a2 : Int} {post : RT [.cell (.int .i64)] → World → Prop} (h : f_extmap_Map_at a0 a1 a2 w post) : c_extmap_Map_at a0 a1 a2 w post :=
 calls_of_vc tab_ok Tryz.func114 (by kernel_rfl) (Eq.mpr (by kernel_rfl) h)
/-- slices.Clone[[]scarp/extmap.version,scarp/extmap.version] -/
def f_slices_Clone_extmap_version_extmap_version (a0 : SV) (w : World) (post : SV → World → Prop) : Prop :=
 (bsplit ((a0.a).isNone)
 (post (⟨none, 0, 0⟩) w)
 ((withW (w.alloc (.cells #[] 185)) fun w1 =>
 (appendR (⟨(some (⟨w.heap.size, 0, none⟩ : Addr)), 0, 0⟩) a0 2 32 [.int .i64 0, .slice none 0 0] 185 w1 fun (s2 : SV) w3 =>
 post (⟨s2.a, s2.n, s2.c⟩) w3))))
theorem slices_Clone_extmap_version_extmap_version_go {w : World} {a0 : SV} {post : RT [.cell (.slice)] → World → Prop} (h : f_slices_Clone_extmap_version_extmap_version a0 w post) : c_slices_Clone_extmap_version_extmap_version a0 w post :=
 calls_of_vc tab_ok Tryz.func115 (by kernel_rfl) (Eq.mpr (by kernel_rfl) h)
/-- slices.IndexFunc[[]scarp/api.Put,scarp/api.Put]; loop over (t4 : Int, t8 : Int) -/
def f_slices_IndexFunc_api_Put_api_Put_at_wbuf_Buf_Write_1 (a0 : SV) (a1c0 : Option Addr) (w : World) (post : Int → World → Prop) : Prop :=
 (loopR (α := Int × Int) (0, 0) w fun x1 w2 next3 =>
 (bsplit (decide ((x1.2 : Int) < ((a0.n : Nat) : Int)))
 ((0 ≤ (x1.2 : Int) ∧ (x1.2 : Int) < ((a0.n : Nat) : Int) ∧
 (onP a0.a fun p4 =>
 (∃ g5 : Int × SV, (w2.cell? (p4.add ((x1.2 : Int).toNat * 2)) = some (.int .i64 g5.1) ∧ w2.cell? ((p4.add ((x1.2 : Int).toNat * 2)).add 1) = some (.slice g5.2.a g5.2.n g5.2.c)) ∧
 (c_wbuf_Buf_Write_1 g5.1 g5.2 a1c0 w2 fun (x6 : Bool) w7 =>
 (bsplit x6
 (post (x1.2) w7)
 (next3 (x1.1, (IntKind.i64.wrap (x1.2 + 1))) w7)))))))
 (post ((-1)) w2)))
theorem slices_IndexFunc_api_Put_api_Put_at_wbuf_Buf_Write_1_go {w : World} {a0 : SV} {a1c0 : Option Addr} {post : RT [.cell (.int .i64)] → World → Prop} (h : f_slices_IndexFunc_api_Put_api_Put_at_wbuf_Buf_Write_1 a0 a1c0 w post) : c_slices_IndexFunc_api_Put_api_Put_at_wbuf_Buf_Write_1 a0 a1c0 w post :=
 calls_of_vc tab_ok Tryz.func130 (by kernel_rfl) (Eq.mpr (by kernel_rfl) h)
/-- slices.IndexFunc[[]scarp/api.Put,scarp/api.Put]; loop over (t4 : Int, t8 : Int) -/
def f_slices_IndexFunc_api_Put_api_Put_at_wbuf_Buf_Write_2 (a0 : SV) (w : World) (post : Int → World → Prop) : Prop :=
 (loopR (α := Int × Int) (0, 0) w fun x1 w2 next3 =>
 (bsplit (decide ((x1.2 : Int) < ((a0.n : Nat) : Int)))
 ((0 ≤ (x1.2 : Int) ∧ (x1.2 : Int) < ((a0.n : Nat) : Int) ∧
 (onP a0.a fun p4 =>
 (∃ g5 : Int × SV, (w2.cell? (p4.add ((x1.2 : Int).toNat * 2)) = some (.int .i64 g5.1) ∧ w2.cell? ((p4.add ((x1.2 : Int).toNat * 2)).add 1) = some (.slice g5.2.a g5.2.n g5.2.c)) ∧
 (c_wbuf_Buf_Write_2 g5.1 g5.2 w2 fun (x6 : Bool) w7 =>
 (bsplit x6
 (post (x1.2) w7)
 (next3 (x1.1, (IntKind.i64.wrap (x1.2 + 1))) w7)))))))
 (post ((-1)) w2)))
theorem slices_IndexFunc_api_Put_api_Put_at_wbuf_Buf_Write_2_go {w : World} {a0 : SV} {post : RT [.cell (.int .i64)] → World → Prop} (h : f_slices_IndexFunc_api_Put_api_Put_at_wbuf_Buf_Write_2 a0 w post) : c_slices_IndexFunc_api_Put_api_Put_at_wbuf_Buf_Write_2 a0 w post :=
 calls_of_vc tab_ok Tryz.func130 (by kernel_rfl) (Eq.mpr (by kernel_rfl) h)
/-- slices.IndexFunc[[]scarp/api.Put,scarp/api.Put]; loop over (t4 : Int, t8 : Int) -/
def f_slices_IndexFunc_api_Put_api_Put_at_extmap_Map_Apply_1 (a0 : SV) (w : World) (post : Int → World → Prop) : Prop :=
 (loopR (α := Int × Int) (0, 0) w fun x1 w2 next3 =>
 (bsplit (decide ((x1.2 : Int) < ((a0.n : Nat) : Int)))
 ((0 ≤ (x1.2 : Int) ∧ (x1.2 : Int) < ((a0.n : Nat) : Int) ∧
 (onP a0.a fun p4 =>
 (∃ g5 : Int × SV, (w2.cell? (p4.add ((x1.2 : Int).toNat * 2)) = some (.int .i64 g5.1) ∧ w2.cell? ((p4.add ((x1.2 : Int).toNat * 2)).add 1) = some (.slice g5.2.a g5.2.n g5.2.c)) ∧
 (c_extmap_Map_Apply_1 g5.1 g5.2 w2 fun (x6 : Bool) w7 =>
 (bsplit x6
 (post (x1.2) w7)
 (next3 (x1.1, (IntKind.i64.wrap (x1.2 + 1))) w7)))))))
 (post ((-1)) w2)))
theorem slices_IndexFunc_api_Put_api_Put_at_extmap_Map_Apply_1_go {w : World} {a0 : SV} {post : RT [.cell (.int .i64)] → World → Prop} (h : f_slices_IndexFunc_api_Put_api_Put_at_extmap_Map_Apply_1 a0 w post) : c_slices_IndexFunc_api_Put_api_Put_at_extmap_Map_Apply_1 a0 w post :=
 calls_of_vc tab_ok Tryz.func130 (by kernel_rfl) (Eq.mpr (by kernel_rfl) h)
/-- slices.IndexFunc[[]scarp/api.Put,scarp/api.Put]; loop over (t4 : Int, t8 : Int) -/
def f_slices_IndexFunc_api_Put_api_Put_at_valid_Against_1 (a0 : SV) (a1c0 : Option Addr) (w : World) (post : Int → World → Prop) : Prop :=
 (loopR (α := Int × Int) (0, 0) w fun x1 w2 next3 =>
 (bsplit (decide ((x1.2 : Int) < ((a0.n : Nat) : Int)))
 ((0 ≤ (x1.2 : Int) ∧ (x1.2 : Int) < ((a0.n : Nat) : Int) ∧
 (onP a0.a fun p4 =>
 (∃ g5 : Int × SV, (w2.cell? (p4.add ((x1.2 : Int).toNat * 2)) = some (.int .i64 g5.1) ∧ w2.cell? ((p4.add ((x1.2 : Int).toNat * 2)).add 1) = some (.slice g5.2.a g5.2.n g5.2.c)) ∧
 (c_valid_Against_1 g5.1 g5.2 a1c0 w2 fun (x6 : Bool) w7 =>
 (bsplit x6
 (post (x1.2) w7)
 (next3 (x1.1, (IntKind.i64.wrap (x1.2 + 1))) w7)))))))
 (post ((-1)) w2)))
theorem slices_IndexFunc_api_Put_api_Put_at_valid_Against_1_go {w : World} {a0 : SV} {a1c0 : Option Addr} {post : RT [.cell (.int .i64)] → World → Prop} (h : f_slices_IndexFunc_api_Put_api_Put_at_valid_Against_1 a0 a1c0 w post) : c_slices_IndexFunc_api_Put_api_Put_at_valid_Against_1 a0 a1c0 w post :=
 calls_of_vc tab_ok Tryz.func130 (by kernel_rfl) (Eq.mpr (by kernel_rfl) h)
/-- (*scarp/horizon.Book).At -/
def f_horizon_Book_At (a0 : Option Addr) (a1 : Int) (w : World) (post : (Int × Int) → World → Prop) : Prop :=
 (bsplit ((a0).isNone)
 (post (0, 14) w)
 ((onP a0 fun p1 =>
 (∃ r2 : Option Nat, (w.cell? (p1.add 2) = some (.map r2)) ∧
 ((true = true) ∧ (onM r2 (post (0, 14) w) fun m3 =>
 (∃ es4 : List En, (∃ cl5, mapAt w m3 .i64 es4 cl5) ∧ ∃ x6 : Int, (findE es4 a1).getD (.int .i64 0) = .int .i64 x6 ∧
 (bsplit (!(findE es4 a1).isSome)
 (post (0, 14) w)
 (post (x6, 0) w)))))))))
theorem horizon_Book_At_go {w : World} {a0 : Option Addr} {a1 : Int} {post : RT [.cell (.int .i64), .cell (.int .i64)] → World → Prop} (h : f_horizon_Book_At a0 a1 w post) : c_horizon_Book_At a0 a1 w post :=
 calls_of_vc tab_ok Tryz.func131 (by kernel_rfl) (Eq.mpr (by kernel_rfl) h)
/-- (*scarp/ival.Set).Count; loop over (n : Int, t8 : Int) -/
def f_ival_Set_Count (a0 : Option Addr) (w : World) (post : Int → World → Prop) : Prop :=
 (c_ival_Set_Extents a0 w fun (x1 : SV) w2 =>
 (loopR (α := Int × Int) (0, 0) w2 fun x3 w4 next5 =>
 (bsplit (decide ((x3.2 : Int) < ((x1.n : Nat) : Int)))
 ((0 ≤ (x3.2 : Int) ∧ (x3.2 : Int) < ((x1.n : Nat) : Int) ∧
 (onP x1.a fun p6 =>
 (∃ g7 : Int × Int, (w4.cell? (p6.add ((x3.2 : Int).toNat * 2)) = some (.int .i64 g7.1) ∧ w4.cell? ((p6.add ((x3.2 : Int).toNat * 2)).add 1) = some (.int .i64 g7.2)) ∧
 (withW (w4.alloc (.cells #[.int .i64 0, .int .i64 0] 56)) fun w8 =>
 ((((∃ u, w8.cell? (⟨w4.heap.size, 0, none⟩ : Addr) = some u) ∧ w8.frozen? (⟨w4.heap.size, 0, none⟩ : Addr) = false) ∧ ((∃ u, w8.cell? ((⟨w4.heap.size, 0, none⟩ : Addr).add 1) = some u) ∧ w8.frozen? ((⟨w4.heap.size, 0, none⟩ : Addr).add 1) = false)) ∧ (true = true) ∧
 (withW ((w8.setCell (⟨w4.heap.size, 0, none⟩ : Addr) (.int .i64 g7.1)).setCell ((⟨w4.heap.size, 0, none⟩ : Addr).add 1) (.int .i64 g7.2)) fun w9 =>
 (∃ n10 : Int, (w9.cell? ((⟨w4.heap.size, 0, none⟩ : Addr).add 1) = some (.int .i64 n10)) ∧
 (withI (IntKind.i64.wrap (x3.1 + n10)) fun i11 =>
 next5 (i11, (IntKind.i64.wrap (x3.2 + 1))) w9)))))))))
 (post (x3.1) w4))))
theorem ival_Set_Count_go {w : World} {a0 : Option Addr} {post : RT [.cell (.int .i64)] → World → Prop} (h : f_ival_Set_Count a0 w post) : c_ival_Set_Count a0 w post :=
 calls_of_vc tab_ok Tryz.func132 (by kernel_rfl) (Eq.mpr (by kernel_rfl) h)
/-- (*scarp/ival.Set).Extents -/
def f_ival_Set_Extents (a0 : Option Addr) (w : World) (post : SV → World → Prop) : Prop :=
 (bsplit ((a0).isNone)
 (post (⟨none, 0, 0⟩) w)
 ((onP a0 fun p1 =>
 (∃ s2 : SV, (w.cell? (p1.add 1) = some (.slice s2.a s2.n s2.c)) ∧
 (c_slices_Clone_api_Extent_api_Extent s2 w fun (x3 : SV) w4 =>
 post (⟨x3.a, x3.n, x3.c⟩) w4)))))
theorem ival_Set_Extents_go {w : World} {a0 : Option Addr} {post : RT [.cell (.slice)] → World → Prop} (h : f_ival_Set_Extents a0 w post) : c_ival_Set_Extents a0 w post :=
 calls_of_vc tab_ok Tryz.func133 (by kernel_rfl) (Eq.mpr (by kernel_rfl) h)
/-- (*scarp/extmap.Map).Written; loop over (t6 : Bool); loop over (t6 : Bool) -/
def f_extmap_Map_Written (a0 : Option Addr) (a1c0 : Int) (a1c1 : Int) (a2 : Int) (w : World) (post : Bool → World → Prop) : Prop :=
 (withW (w.alloc (.cells #[.int .i64 a1c0, .int .i64 a1c1] 56)) fun w1 =>
 (c_extmap_Map_gone a0 w1 fun (x2 : Bool) w3 =>
 (bsplit x2
 (post (false) w3)
 ((∃ n4 : Int, (w3.cell? (⟨w.heap.size, 0, none⟩ : Addr) = some (.int .i64 n4)) ∧
 (bsplit (decide ((n4 : Int) < 0))
 (post (false) w3)
 ((∃ n5 : Int, (w3.cell? (⟨w.heap.size, 0, none⟩ : Addr) = some (.int .i64 n5)) ∧
 (bsplit (decide ((1048576 : Int) < n5))
 (post (false) w3)
 ((∃ n6 : Int, (w3.cell? ((⟨w.heap.size, 0, none⟩ : Addr).add 1) = some (.int .i64 n6)) ∧
 (bsplit (decide ((n6 : Int) < 1))
 (post (false) w3)
 ((∃ n7 : Int, (w3.cell? ((⟨w.heap.size, 0, none⟩ : Addr).add 1) = some (.int .i64 n7)) ∧
 (∃ n8 : Int, (w3.cell? (⟨w.heap.size, 0, none⟩ : Addr) = some (.int .i64 n8)) ∧
 (bsplit (decide (((IntKind.i64.wrap (1048577 - n8)) : Int) < n7))
 (post (false) w3)
 ((∃ n9 : Int, (w3.cell? ((⟨w.heap.size, 0, none⟩ : Addr).add 1) = some (.int .i64 n9)) ∧
 (bsplit (decide ((1048576 : Int) < n9))
 (post (false) w3)
 ((onP a0 fun p10 =>
 (∃ r11 : Option Nat, (w3.cell? (p10.add 1) = some (.map r11)) ∧
 (onM r11 ((withW (w3.alloc (.mapIter none 0 #[] 0)) fun w13 =>
 (loopR (α := Bool) (false) w13 fun x14 w15 next16 =>
 ((⟨w3.heap.size, 0, none⟩ : Addr).off = 0 ∧ ∃ (m17 : Option Nat) (si18 : Nat) (se19 : Array Nat) (st20 : Nat), w15.heap[(⟨w3.heap.size, 0, none⟩ : Addr).block]? = some (.mapIter m17 si18 se19 st20) ∧
 (onM m17 (post (false) w15) fun m21 =>
 (∃ (es22 : List En) (cl23 : Nat), mapAt w15 m21 .i64 es22 cl23 ∧ (se19 = #[] ∨ es22 = [] ∨ ∃ e ∈ es22, e.b < st20) ∧
 (∀ e24 ∈ es22, e24.b ∉ se19 → ∀ w25, (w25 = w15 ∨ w25 = w15.drew) →
 (withW (World.setObj w25 (⟨w3.heap.size, 0, none⟩ : Addr).block (.mapIter (some m21) si18 (se19.push e24.b) cl23)) fun w27 =>
 ((⟨w3.heap.size, 0, none⟩ : Addr).off = 0 ∧ ∃ (m28 si29 : Nat) (se30 : Array Nat) (st31 : Nat), w27.heap[(⟨w3.heap.size, 0, none⟩ : Addr).block]? = some (.mapIter (some m28) si29 se30 st31) ∧ ∃ (es32 : List En), mapAt w27 m28 .i64 es32 st31 ∧ ∃ e33, se30.back? = some e33.b ∧ e33 ∈ es32 ∧ (∀ f ∈ es32, f.b = e33.b → f = e33) ∧ ∃ x34 : SV, e33.v = .slice x34.a x34.n x34.c ∧
 (∃ n35 : Int, (w27.cell? (⟨w.heap.size, 0, none⟩ : Addr) = some (.int .i64 n35)) ∧
 (bsplit (decide ((n35 : Int) ≤ e33.k))
 ((∃ n36 : Int, (w27.cell? (⟨w.heap.size, 0, none⟩ : Addr) = some (.int .i64 n36)) ∧
 (∃ n37 : Int, (w27.cell? ((⟨w.heap.size, 0, none⟩ : Addr).add 1) = some (.int .i64 n37)) ∧
 (bsplit (decide (((IntKind.i64.wrap (e33.k - n36)) : Int) < n37))
 ((0 ≤ ((IntKind.i64.wrap (((x34.n : Nat) : Int) - 1)) : Int) ∧ ((IntKind.i64.wrap (((x34.n : Nat) : Int) - 1)) : Int) < ((x34.n : Nat) : Int) ∧
 (onP x34.a fun p38 =>
 (∃ n39 : Int, (w27.cell? (p38.add (((IntKind.i64.wrap (((x34.n : Nat) : Int) - 1)) : Int).toNat * 2)) = some (.int .i64 n39)) ∧
 (bsplit (decide ((a2 : Int) < n39))
 (post (true) w27)
 (next16 (x14) w27))))))
 (next16 (x14) w27)))))
 (next16 (x14) w27)))))) ∧
 ((∀ e ∈ es22, e.b < si18 → e.b ∈ se19) → ∀ w26, (w26 = w15 ∨ w26 = w15.drew) →
 post (false) w26))))))) fun m12 =>
 (∃ es40 cl41, w3.heap[m12]? = some (.map es40 cl41) ∧
 (withW (w3.alloc (.mapIter (some m12) cl41 #[] cl41)) fun w42 =>
 (loopR (α := Bool) (false) w42 fun x43 w44 next45 =>
 ((⟨w3.heap.size, 0, none⟩ : Addr).off = 0 ∧ ∃ (m46 : Option Nat) (si47 : Nat) (se48 : Array Nat) (st49 : Nat), w44.heap[(⟨w3.heap.size, 0, none⟩ : Addr).block]? = some (.mapIter m46 si47 se48 st49) ∧
 (onM m46 (post (false) w44) fun m50 =>
 (∃ (es51 : List En) (cl52 : Nat), mapAt w44 m50 .i64 es51 cl52 ∧ (se48 = #[] ∨ es51 = [] ∨ ∃ e ∈ es51, e.b < st49) ∧
 (∀ e53 ∈ es51, e53.b ∉ se48 → ∀ w54, (w54 = w44 ∨ w54 = w44.drew) →
 (withW (World.setObj w54 (⟨w3.heap.size, 0, none⟩ : Addr).block (.mapIter (some m50) si47 (se48.push e53.b) cl52)) fun w56 =>
 ((⟨w3.heap.size, 0, none⟩ : Addr).off = 0 ∧ ∃ (m57 si58 : Nat) (se59 : Array Nat) (st60 : Nat), w56.heap[(⟨w3.heap.size, 0, none⟩ : Addr).block]? = some (.mapIter (some m57) si58 se59 st60) ∧ ∃ (es61 : List En), mapAt w56 m57 .i64 es61 st60 ∧ ∃ e62, se59.back? = some e62.b ∧ e62 ∈ es61 ∧ (∀ f ∈ es61, f.b = e62.b → f = e62) ∧ ∃ x63 : SV, e62.v = .slice x63.a x63.n x63.c ∧
 (∃ n64 : Int, (w56.cell? (⟨w.heap.size, 0, none⟩ : Addr) = some (.int .i64 n64)) ∧
 (bsplit (decide ((n64 : Int) ≤ e62.k))
 ((∃ n65 : Int, (w56.cell? (⟨w.heap.size, 0, none⟩ : Addr) = some (.int .i64 n65)) ∧
 (∃ n66 : Int, (w56.cell? ((⟨w.heap.size, 0, none⟩ : Addr).add 1) = some (.int .i64 n66)) ∧
 (bsplit (decide (((IntKind.i64.wrap (e62.k - n65)) : Int) < n66))
 ((0 ≤ ((IntKind.i64.wrap (((x63.n : Nat) : Int) - 1)) : Int) ∧ ((IntKind.i64.wrap (((x63.n : Nat) : Int) - 1)) : Int) < ((x63.n : Nat) : Int) ∧
 (onP x63.a fun p67 =>
 (∃ n68 : Int, (w56.cell? (p67.add (((IntKind.i64.wrap (((x63.n : Nat) : Int) - 1)) : Int).toNat * 2)) = some (.int .i64 n68)) ∧
 (bsplit (decide ((a2 : Int) < n68))
 (post (true) w56)
 (next45 (x43) w56))))))
 (next45 (x43) w56)))))
 (next45 (x43) w56)))))) ∧
 ((∀ e ∈ es51, e.b < si47 → e.b ∈ se48) → ∀ w55, (w55 = w44 ∨ w55 = w44.drew) →
 post (false) w55))))))))))))))))))))))))))))))
theorem extmap_Map_Written_go {w : World} {a0 : Option Addr} {a1c0 : Int} {a1c1 : Int} {a2 : Int} {post : RT [.cell (.bool)] → World → Prop} (h : f_extmap_Map_Written a0 a1c0 a1c1 a2 w post) : c_extmap_Map_Written a0 a1c0 a1c1 a2 w post :=
 calls_of_vc tab_ok Tryz.func134 (by kernel_rfl) (Eq.mpr (by kernel_rfl) h)
/-- scarp/valid.Against -/
def f_valid_Against (a0c0 : Int) (a0c1 : SV) (a1 : Option Addr) (w : World) (post : Bool → World → Prop) : Prop :=
 (withW (w.alloc (.cells #[.int .i64 a0c0, .slice a0c1.a a0c1.n a0c1.c] 70)) fun w1 =>
 (withW (w1.alloc (.cells #[.pointer a1] 171)) fun w2 =>
 (∃ s3 : SV, (w2.cell? ((⟨w.heap.size, 0, none⟩ : Addr).add 1) = some (.slice s3.a s3.n s3.c)) ∧
 (c_slices_ContainsFunc_api_Put_api_Put_at_valid_Against_1 s3 (some (⟨w1.heap.size, 0, none⟩ : Addr)) w2 fun (x4 : Bool) w5 =>
 post (x4) w5))))
theorem valid_Against_go {w : World} {a0c0 : Int} {a0c1 : SV} {a1 : Option Addr} {post : RT [.cell (.bool)] → World → Prop} (h : f_valid_Against a0c0 a0c1 a1 w post) : c_valid_Against a0c0 a0c1 a1 w post :=
 calls_of_vc tab_ok Tryz.func135 (by kernel_rfl) (Eq.mpr (by kernel_rfl) h)
/-- (*scarp/extmap.Map).within -/
def f_extmap_Map_within (a0 : Option Addr) (a1c0 : Int) (a1c1 : Int) (w : World) (post : Bool → World → Prop) : Prop :=
 (withW (w.alloc (.cells #[.int .i64 a1c0, .int .i64 a1c1] 56)) fun w1 =>
 (withW w1.drew fun w3 =>
 (∃ S2 : World → Prop, S2 w3 ∧
 (∃ n4 : Int, ((∀ w5, S2 w5 → w5.cell? (⟨w.heap.size, 0, none⟩ : Addr) = some (.int .i64 n4))) ∧
 (bsplit (decide ((0 : Int) ≤ n4))
 ((∃ n6 : Int, ((∀ w7, S2 w7 → w7.cell? ((⟨w.heap.size, 0, none⟩ : Addr).add 1) = some (.int .i64 n6))) ∧
 (bsplit (decide ((1 : Int) ≤ n6))
 ((∃ n8 : Int, ((∀ w9, S2 w9 → w9.cell? ((⟨w.heap.size, 0, none⟩ : Addr).add 1) = some (.int .i64 n8))) ∧
 (c_extmap_Map_Blocks a0 w3 fun (x10 : Int) w11 =>
 (S2 w11 ∧
 (bsplit (decide ((n8 : Int) ≤ x10))
 ((∃ n12 : Int, ((∀ w13, S2 w13 → w13.cell? (⟨w.heap.size, 0, none⟩ : Addr) = some (.int .i64 n12))) ∧
 (∃ n14 : Int, ((∀ w15, S2 w15 → w15.cell? ((⟨w.heap.size, 0, none⟩ : Addr).add 1) = some (.int .i64 n14))) ∧
 (c_extmap_Map_Blocks a0 w11 fun (x16 : Int) w17 =>
 (S2 w17 ∧
 post ((decide ((n12 : Int) ≤ (IntKind.i64.wrap (x16 - n14))))) w17)))))
 (post (false) w11))))))
 (post (false) w3))))
 (post (false) w3))))))
theorem extmap_Map_within_go {w : World} {a0 : Option Addr} {a1c0 : Int} {a1c1 : Int} {post : RT [.cell (.bool)] → World → Prop} (h : f_extmap_Map_within a0 a1c0 a1c1 w post) : c_extmap_Map_within a0 a1c0 a1c1 w post :=
 calls_of_vc tab_ok Tryz.func140 (by kernel_rfl) (Eq.mpr (by kernel_rfl) h)
/-- (*scarp/extmap.Map).Get -/
def f_extmap_Map_Get (a0 : Option Addr) (a1 : Int) (a2 : Int) (w : World) (post : (SV × Int) → World → Prop) : Prop :=
 (c_extmap_Map_block a0 a1 w fun (x1 : Bool) w2 =>
 (bsplit (!x1)
 (post (⟨none, 0, 0⟩, 0) w2)
 ((c_extmap_Map_at a0 a1 a2 w2 fun (x3 : Int) w4 =>
 (bsplit (decide ((x3 : Int) < 0))
 ((0 ≤ (40 : Int) ∧ (40 : Int) ≤ 40 ∧ ((1 : Nat) : Int) * 40 ≤ 2 ^ 48 ∧ (40 : Int) ≤ 2 ^ 48 ∧
 (withW (w4.alloc (.cells (zrow [.int .u8 0] (40 : Int).toNat).toArray 5)) fun w5 =>
 post (⟨(some (⟨w4.heap.size, 0, none⟩ : Addr)), ((40 : Int).toNat), ((40 : Int).toNat)⟩, 0) w5)))
 ((onP a0 fun p6 =>
 (∃ r7 : Option Nat, (w4.cell? (p6.add 1) = some (.map r7)) ∧
 ((true = true) ∧ (onM r7 ((0 ≤ (x3 : Int) ∧ (x3 : Int) < ((0 : Nat) : Int) ∧
 False)) fun m8 =>
 (∃ es9 : List En, (∃ cl10, mapAt w4 m8 .i64 es9 cl10) ∧ ∃ x11 : SV, (findE es9 a1).getD (.slice none 0 0) = .slice x11.a x11.n x11.c ∧
 (0 ≤ (x3 : Int) ∧ (x3 : Int) < ((x11.n : Nat) : Int) ∧
 (onP x11.a fun p12 =>
 (∃ g13 : Int × SV, (w4.cell? (p12.add ((x3 : Int).toNat * 2)) = some (.int .i64 g13.1) ∧ w4.cell? ((p12.add ((x3 : Int).toNat * 2)).add 1) = some (.slice g13.2.a g13.2.n g13.2.c)) ∧
 (withW (w4.alloc (.cells #[.int .i64 0, .slice none 0 0] 185)) fun w14 =>
 ((((∃ u, w14.cell? (⟨w4.heap.size, 0, none⟩ : Addr) = some u) ∧ w14.frozen? (⟨w4.heap.size, 0, none⟩ : Addr) = false) ∧ ((∃ u, w14.cell? ((⟨w4.heap.size, 0, none⟩ : Addr).add 1) = some u) ∧ w14.frozen? ((⟨w4.heap.size, 0, none⟩ : Addr).add 1) = false)) ∧ (true = true) ∧
 (withW ((w14.setCell (⟨w4.heap.size, 0, none⟩ : Addr) (.int .i64 g13.1)).setCell ((⟨w4.heap.size, 0, none⟩ : Addr).add 1) (.slice g13.2.a g13.2.n g13.2.c)) fun w15 =>
 (withW w15.drew fun w17 =>
 (∃ S16 : World → Prop, S16 w17 ∧
 (∃ s18 : SV, ((∀ w19, S16 w19 → w19.cell? ((⟨w4.heap.size, 0, none⟩ : Addr).add 1) = some (.slice s18.a s18.n s18.c))) ∧
 (∃ n20 : Int, ((∀ w21, S16 w21 → w21.cell? (⟨w4.heap.size, 0, none⟩ : Addr) = some (.int .i64 n20))) ∧
 (c_slices_Clone_byte_byte s18 w17 fun (x22 : SV) w23 =>
 (S16 w23 ∧
 post (⟨x22.a, x22.n, x22.c⟩, n20) w23)))))))))))))))))))))))
theorem extmap_Map_Get_go {w : World} {a0 : Option Addr} {a1 : Int} {a2 : Int} {post : RT [.cell (.slice), .cell (.int .i64)] → World → Prop} (h : f_extmap_Map_Get a0 a1 a2 w post) : c_extmap_Map_Get a0 a1 a2 w post :=
 calls_of_vc tab_ok Tryz.func141 (by kernel_rfl) (Eq.mpr (by kernel_rfl) h)
/-- scarp/ival.all -/
def f_ival_all (a0 : SV) (w : World) (post : Bool → World → Prop) : Prop :=
 (c_slices_ContainsFunc_api_Extent_api_Extent_at_ival_all_1 a0 w fun (x1 : Bool) w2 =>
 post ((!x1)) w2)
theorem ival_all_go {w : World} {a0 : SV} {post : RT [.cell (.bool)] → World → Prop} (h : f_ival_all a0 w post) : c_ival_all a0 w post :=
 calls_of_vc tab_ok Tryz.func142 (by kernel_rfl) (Eq.mpr (by kernel_rfl) h)
/-- scarp/ival.joined; loop over (out : SV, t12 : Int) -/
def f_ival_joined (a0 : SV) (w : World) (post : SV → World → Prop) : Prop :=
 (c_slices_Clone_api_Extent_api_Extent a0 w fun (x1 : SV) w2 =>
 (c_slices_SortFunc_api_Extent_api_Extent_at_ival_joined_1 x1 w2 fun (x3 : Unit) w4 =>
 (loopR (α := SV × Int) (⟨none, 0, 0⟩, 0) w4 fun x5 w6 next7 =>
 (bsplit (decide ((x5.2 : Int) < ((x1.n : Nat) : Int)))
 ((0 ≤ (x5.2 : Int) ∧ (x5.2 : Int) < ((x1.n : Nat) : Int) ∧
 (onP x1.a fun p8 =>
 (∃ g9 : Int × Int, (w6.cell? (p8.add ((x5.2 : Int).toNat * 2)) = some (.int .i64 g9.1) ∧ w6.cell? ((p8.add ((x5.2 : Int).toNat * 2)).add 1) = some (.int .i64 g9.2)) ∧
 (withW (w6.alloc (.cells #[.int .i64 0, .int .i64 0] 56)) fun w10 =>
 ((((∃ u, w10.cell? (⟨w6.heap.size, 0, none⟩ : Addr) = some u) ∧ w10.frozen? (⟨w6.heap.size, 0, none⟩ : Addr) = false) ∧ ((∃ u, w10.cell? ((⟨w6.heap.size, 0, none⟩ : Addr).add 1) = some u) ∧ w10.frozen? ((⟨w6.heap.size, 0, none⟩ : Addr).add 1) = false)) ∧ (true = true) ∧
 (withW ((w10.setCell (⟨w6.heap.size, 0, none⟩ : Addr) (.int .i64 g9.1)).setCell ((⟨w6.heap.size, 0, none⟩ : Addr).add 1) (.int .i64 g9.2)) fun w11 =>
 (withI (IntKind.i64.wrap (((x5.1.n : Nat) : Int) - 1)) fun i12 =>
 (withW w11.drew fun w13 =>
 (bsplit (decide ((0 : Int) ≤ i12))
 ((∃ n14 : Int, (w13.cell? (⟨w6.heap.size, 0, none⟩ : Addr) = some (.int .i64 n14)) ∧
 (0 ≤ (i12 : Int) ∧ (i12 : Int) < ((x5.1.n : Nat) : Int) ∧
 (onP x5.1.a fun p15 =>
 (∃ n16 : Int, (w13.cell? (p15.add ((i12 : Int).toNat * 2)) = some (.int .i64 n16)) ∧
 (0 ≤ (i12 : Int) ∧ (i12 : Int) < ((x5.1.n : Nat) : Int) ∧
 (onP x5.1.a fun p17 =>
 (∃ n18 : Int, (w13.cell? ((p17.add ((i12 : Int).toNat * 2)).add 1) = some (.int .i64 n18)) ∧
 (bsplit (decide ((n14 : Int) ≤ (IntKind.i64.wrap (n16 + n18))))
 ((withW w13.drew fun w20 =>
 (∃ S19 : World → Prop, S19 w20 ∧
 (0 ≤ (i12 : Int) ∧ (i12 : Int) < ((x5.1.n : Nat) : Int) ∧
 (onP x5.1.a fun p21 =>
 (∃ n22 : Int, ((∀ w23, S19 w23 → w23.cell? ((p21.add ((i12 : Int).toNat * 2)).add 1) = some (.int .i64 n22))) ∧
 (∃ n24 : Int, ((∀ w25, S19 w25 → w25.cell? (⟨w6.heap.size, 0, none⟩ : Addr) = some (.int .i64 n24))) ∧
 (∃ n26 : Int, ((∀ w27, S19 w27 → w27.cell? ((⟨w6.heap.size, 0, none⟩ : Addr).add 1) = some (.int .i64 n26))) ∧
 (0 ≤ (i12 : Int) ∧ (i12 : Int) < ((x5.1.n : Nat) : Int) ∧
 (onP x5.1.a fun p28 =>
 (∃ n29 : Int, ((∀ w30, S19 w30 → w30.cell? (p28.add ((i12 : Int).toNat * 2)) = some (.int .i64 n29))) ∧
 (0 ≤ (i12 : Int) ∧ (i12 : Int) < ((x5.1.n : Nat) : Int) ∧
 (onP x5.1.a fun p31 =>
 ((((∃ u, w20.cell? ((p31.add ((i12 : Int).toNat * 2)).add 1) = some u) ∧ w20.frozen? ((p31.add ((i12 : Int).toNat * 2)).add 1) = false)) ∧ (true = true) ∧
 (withW (w20.setCell ((p31.add ((i12 : Int).toNat * 2)).add 1) (.int .i64 (if ((IntKind.i64.wrap ((IntKind.i64.wrap (n24 + n26)) - n29)) : Int) > n22 then (IntKind.i64.wrap ((IntKind.i64.wrap (n24 + n26)) - n29)) else n22))) fun w32 =>
 next7 (⟨x5.1.a, x5.1.n, x5.1.c⟩, (IntKind.i64.wrap (x5.2 + 1))) w32)))))))))))))))
 ((∃ g33 : Int × Int, (w13.cell? (⟨w6.heap.size, 0, none⟩ : Addr) = some (.int .i64 g33.1) ∧ w13.cell? ((⟨w6.heap.size, 0, none⟩ : Addr).add 1) = some (.int .i64 g33.2)) ∧
 (withW (w13.alloc (.cells #[.int .i64 g33.1, .int .i64 g33.2] 56)) fun w34 =>
 (appendR x5.1 (⟨(some (⟨w13.heap.size, 0, none⟩ : Addr)), 1, 1⟩) 2 16 [.int .i64 0, .int .i64 0] 56 w34 fun (s35 : SV) w36 =>
 next7 (⟨s35.a, s35.n, s35.c⟩, (IntKind.i64.wrap (x5.2 + 1))) w36)))))))))))))
 ((∃ g37 : Int × Int, (w13.cell? (⟨w6.heap.size, 0, none⟩ : Addr) = some (.int .i64 g37.1) ∧ w13.cell? ((⟨w6.heap.size, 0, none⟩ : Addr).add 1) = some (.int .i64 g37.2)) ∧
 (withW (w13.alloc (.cells #[.int .i64 g37.1, .int .i64 g37.2] 56)) fun w38 =>
 (appendR x5.1 (⟨(some (⟨w13.heap.size, 0, none⟩ : Addr)), 1, 1⟩) 2 16 [.int .i64 0, .int .i64 0] 56 w38 fun (s39 : SV) w40 =>
 next7 (⟨s39.a, s39.n, s39.c⟩, (IntKind.i64.wrap (x5.2 + 1))) w40))))))))))))))
 (post (⟨x5.1.a, x5.1.n, x5.1.c⟩) w6)))))
theorem ival_joined_go {w : World} {a0 : SV} {post : RT [.cell (.slice)] → World → Prop} (h : f_ival_joined a0 w post) : c_ival_joined a0 w post :=
 calls_of_vc tab_ok Tryz.func143 (by kernel_rfl) (Eq.mpr (by kernel_rfl) h)
/-- slices.Concat[[]scarp/api.Extent,scarp/api.Extent]; loop over (size : Int, t11 : Int); loop over (newslice : SV, t27 : Int) -/
def f_slices_Concat_api_Extent_api_Extent (a0 : SV) (w : World) (post : SV → World → Prop) : Prop :=
 (loopR (α := Int × Int) (0, 0) w fun x1 w2 next3 =>
 (bsplit (decide ((x1.2 : Int) < ((a0.n : Nat) : Int)))
 ((0 ≤ (x1.2 : Int) ∧ (x1.2 : Int) < ((a0.n : Nat) : Int) ∧
 (onP a0.a fun p4 =>
 (∃ s5 : SV, (w2.cell? (p4.add ((x1.2 : Int).toNat * 1)) = some (.slice s5.a s5.n s5.c)) ∧
 (withI (IntKind.i64.wrap (x1.1 + ((s5.n : Nat) : Int))) fun i6 =>
 (bsplit (decide ((i6 : Int) < 0))
 (False)
 (next3 (i6, (IntKind.i64.wrap (x1.2 + 1))) w2)))))))
 ((c_slices_Grow_api_Extent_api_Extent (⟨none, 0, 0⟩) x1.1 w2 fun (x7 : SV) w8 =>
 (loopR (α := SV × Int) (⟨x7.a, x7.n, x7.c⟩, 0) w8 fun x9 w10 next11 =>
 (bsplit (decide ((x9.2 : Int) < ((a0.n : Nat) : Int)))
 ((0 ≤ (x9.2 : Int) ∧ (x9.2 : Int) < ((a0.n : Nat) : Int) ∧
 (onP a0.a fun p12 =>
 (∃ s13 : SV, (w10.cell? (p12.add ((x9.2 : Int).toNat * 1)) = some (.slice s13.a s13.n s13.c)) ∧
 (appendR x9.1 s13 2 16 [.int .i64 0, .int .i64 0] 56 w10 fun (s14 : SV) w15 =>
 next11 (⟨s14.a, s14.n, s14.c⟩, (IntKind.i64.wrap (x9.2 + 1))) w15)))))
 (post (⟨x9.1.a, x9.1.n, x9.1.c⟩) w10)))))))
theorem slices_Concat_api_Extent_api_Extent_go {w : World} {a0 : SV} {post : RT [.cell (.slice)] → World → Prop} (h : f_slices_Concat_api_Extent_api_Extent a0 w post) : c_slices_Concat_api_Extent_api_Extent a0 w post :=
 calls_of_vc tab_ok Tryz.func144 (by kernel_rfl) (Eq.mpr (by kernel_rfl) h)
/-- slices.Clone[[]scarp/api.Extent,scarp/api.Extent] -/
def f_slices_Clone_api_Extent_api_Extent (a0 : SV) (w : World) (post : SV → World → Prop) : Prop :=
 (bsplit ((a0.a).isNone)
 (post (⟨none, 0, 0⟩) w)
 ((withW (w.alloc (.cells #[] 56)) fun w1 =>
 (appendR (⟨(some (⟨w.heap.size, 0, none⟩ : Addr)), 0, 0⟩) a0 2 16 [.int .i64 0, .int .i64 0] 56 w1 fun (s2 : SV) w3 =>
 post (⟨s2.a, s2.n, s2.c⟩) w3))))
theorem slices_Clone_api_Extent_api_Extent_go {w : World} {a0 : SV} {post : RT [.cell (.slice)] → World → Prop} (h : f_slices_Clone_api_Extent_api_Extent a0 w post) : c_slices_Clone_api_Extent_api_Extent a0 w post :=
 calls_of_vc tab_ok Tryz.func153 (by kernel_rfl) (Eq.mpr (by kernel_rfl) h)
/-- scarp/valid.Against$1 -/
def f_valid_Against_1 (a0c0 : Int) (a0c1 : SV) (c0 : Option Addr) (w : World) (post : Bool → World → Prop) : Prop :=
 (withW (w.alloc (.cells #[.int .i64 a0c0, .slice a0c1.a a0c1.n a0c1.c] 33)) fun w1 =>
 (onP c0 fun p2 =>
 (∃ q3 : Option Addr, (w1.cell? p2 = some (.pointer q3)) ∧
 (∃ n4 : Int, (w1.cell? (⟨w.heap.size, 0, none⟩ : Addr) = some (.int .i64 n4)) ∧
 (c_ival_Set_Has q3 n4 w1 fun (x5 : Bool) w6 =>
 post (x5) w6)))))
theorem valid_Against_1_go {w : World} {a0c0 : Int} {a0c1 : SV} {c0 : Option Addr} {post : RT [.cell (.bool)] → World → Prop} (h : f_valid_Against_1 a0c0 a0c1 c0 w post) : c_valid_Against_1 a0c0 a0c1 c0 w post :=
 calls_of_vc tab_ok Tryz.func154 (by kernel_rfl) (Eq.mpr (by kernel_rfl) h)
/-- (*scarp/ival.Set).Has -/
def f_ival_Set_Has (a0 : Option Addr) (a1 : Int) (w : World) (post : Bool → World → Prop) : Prop :=
 (c_ival_Set_Meets a0 a1 1 w fun (x1 : Bool) w2 =>
 post (x1) w2)
theorem ival_Set_Has_go {w : World} {a0 : Option Addr} {a1 : Int} {post : RT [.cell (.bool)] → World → Prop} (h : f_ival_Set_Has a0 a1 w post) : c_ival_Set_Has a0 a1 w post :=
 calls_of_vc tab_ok Tryz.func155 (by kernel_rfl) (Eq.mpr (by kernel_rfl) h)
/-- slices.ContainsFunc[[]scarp/api.Extent,scarp/api.Extent] -/
def f_slices_ContainsFunc_api_Extent_api_Extent_at_ival_all_1 (a0 : SV) (w : World) (post : Bool → World → Prop) : Prop :=
 (c_slices_IndexFunc_api_Extent_api_Extent_at_ival_all_1 a0 w fun (x1 : Int) w2 =>
 post ((decide ((0 : Int) ≤ x1))) w2)
theorem slices_ContainsFunc_api_Extent_api_Extent_at_ival_all_1_go {w : World} {a0 : SV} {post : RT [.cell (.bool)] → World → Prop} (h : f_slices_ContainsFunc_api_Extent_api_Extent_at_ival_all_1 a0 w post) : c_slices_ContainsFunc_api_Extent_api_Extent_at_ival_all_1 a0 w post :=
 calls_of_vc tab_ok Tryz.func160 (by kernel_rfl) (Eq.mpr (by kernel_rfl) h)
/-- slices.ContainsFunc[[]scarp/api.Extent,scarp/api.Extent] -/
def f_slices_ContainsFunc_api_Extent_api_Extent_at_ival_Set_Meets_1 (a0 : SV) (a1c0 : Option Addr) (w : World) (post : Bool → World → Prop) : Prop :=
 (c_slices_IndexFunc_api_Extent_api_Extent_at_ival_Set_Meets_1 a0 a1c0 w fun (x1 : Int) w2 =>
 post ((decide ((0 : Int) ≤ x1))) w2)
theorem slices_ContainsFunc_api_Extent_api_Extent_at_ival_Set_Meets_1_go {w : World} {a0 : SV} {a1c0 : Option Addr} {post : RT [.cell (.bool)] → World → Prop} (h : f_slices_ContainsFunc_api_Extent_api_Extent_at_ival_Set_Meets_1 a0 a1c0 w post) : c_slices_ContainsFunc_api_Extent_api_Extent_at_ival_Set_Meets_1 a0 a1c0 w post :=
 calls_of_vc tab_ok Tryz.func160 (by kernel_rfl) (Eq.mpr (by kernel_rfl) h)
/-- scarp/ival.all$1 -/
def f_ival_all_1 (a0c0 : Int) (a0c1 : Int) (w : World) (post : Bool → World → Prop) : Prop :=
 (withW (w.alloc (.cells #[.int .i64 a0c0, .int .i64 a0c1] 56)) fun w1 =>
 (∃ g2 : Int × Int, (w1.cell? (⟨w.heap.size, 0, none⟩ : Addr) = some (.int .i64 g2.1) ∧ w1.cell? ((⟨w.heap.size, 0, none⟩ : Addr).add 1) = some (.int .i64 g2.2)) ∧
 (c_ival_may g2.1 g2.2 w1 fun (x3 : Bool) w4 =>
 post ((!x3)) w4)))
theorem ival_all_1_go {w : World} {a0c0 : Int} {a0c1 : Int} {post : RT [.cell (.bool)] → World → Prop} (h : f_ival_all_1 a0c0 a0c1 w post) : c_ival_all_1 a0c0 a0c1 w post :=
 calls_of_vc tab_ok Tryz.func161 (by kernel_rfl) (Eq.mpr (by kernel_rfl) h)
/-- scarp/ival.may -/
def f_ival_may (a0c0 : Int) (a0c1 : Int) (w : World) (post : Bool → World → Prop) : Prop :=
 (withW (w.alloc (.cells #[.int .i64 a0c0, .int .i64 a0c1] 56)) fun w1 =>
 (∃ n2 : Int, (w1.cell? (⟨w.heap.size, 0, none⟩ : Addr) = some (.int .i64 n2)) ∧
 (bsplit (decide ((0 : Int) ≤ n2))
 ((∃ n3 : Int, (w1.cell? (⟨w.heap.size, 0, none⟩ : Addr) = some (.int .i64 n3)) ∧
 (bsplit (decide ((n3 : Int) ≤ 1048576))
 ((∃ n4 : Int, (w1.cell? ((⟨w.heap.size, 0, none⟩ : Addr).add 1) = some (.int .i64 n4)) ∧
 (bsplit (decide ((1 : Int) ≤ n4))
 ((∃ n5 : Int, (w1.cell? ((⟨w.heap.size, 0, none⟩ : Addr).add 1) = some (.int .i64 n5)) ∧
 (bsplit (decide ((n5 : Int) ≤ 1048576))
 ((∃ n6 : Int, (w1.cell? (⟨w.heap.size, 0, none⟩ : Addr) = some (.int .i64 n6)) ∧
 (∃ n7 : Int, (w1.cell? ((⟨w.heap.size, 0, none⟩ : Addr).add 1) = some (.int .i64 n7)) ∧
 post ((decide (((IntKind.i64.wrap (n6 + n7)) : Int) ≤ 1048577))) w1)))
 (post (false) w1))))
 (post (false) w1))))
 (post (false) w1))))
 (post (false) w1))))
theorem ival_may_go {w : World} {a0c0 : Int} {a0c1 : Int} {post : RT [.cell (.bool)] → World → Prop} (h : f_ival_may a0c0 a0c1 w post) : c_ival_may a0c0 a0c1 w post :=
 calls_of_vc tab_ok Tryz.func162 (by kernel_rfl) (Eq.mpr (by kernel_rfl) h)
/-- scarp/ival.joined$1 -/
def f_ival_joined_1 (a0c0 : Int) (a0c1 : Int) (a1c0 : Int) (a1c1 : Int) (w : World) (post : Int → World → Prop) : Prop :=
 (withW (w.alloc (.cells #[.int .i64 a0c0, .int .i64 a0c1] 56)) fun w1 =>
 (withW (w1.alloc (.cells #[.int .i64 a1c0, .int .i64 a1c1] 56)) fun w2 =>
 (∃ n3 : Int, (w2.cell? (⟨w.heap.size, 0, none⟩ : Addr) = some (.int .i64 n3)) ∧
 (∃ n4 : Int, (w2.cell? (⟨w1.heap.size, 0, none⟩ : Addr) = some (.int .i64 n4)) ∧
 (c_cmp_Compare_int n3 n4 w2 fun (x5 : Int) w6 =>
 post (x5) w6)))))
theorem ival_joined_1_go {w : World} {a0c0 : Int} {a0c1 : Int} {a1c0 : Int} {a1c1 : Int} {post : RT [.cell (.int .i64)] → World → Prop} (h : f_ival_joined_1 a0c0 a0c1 a1c0 a1c1 w post) : c_ival_joined_1 a0c0 a0c1 a1c0 a1c1 w post :=
 calls_of_vc tab_ok Tryz.func164 (by kernel_rfl) (Eq.mpr (by kernel_rfl) h)
/-- cmp.Compare[int] -/
def f_cmp_Compare_int (a0 : Int) (a1 : Int) (w : World) (post : Int → World → Prop) : Prop :=
 (c_cmp_isNaN_int a0 w fun (x1 : Bool) w2 =>
 (c_cmp_isNaN_int a1 w2 fun (x3 : Bool) w4 =>
 (bsplit x1
 ((bsplit x3
 (post (0) w4)
 (post ((-1)) w4)))
 ((bsplit x3
 (post (1) w4)
 ((bsplit (decide ((a0 : Int) < a1))
 (post ((-1)) w4)
 ((bsplit (decide ((a1 : Int) < a0))
 (post (1) w4)
 (post (0) w4))))))))))
theorem cmp_Compare_int_go {w : World} {a0 : Int} {a1 : Int} {post : RT [.cell (.int .i64)] → World → Prop} (h : f_cmp_Compare_int a0 a1 w post) : c_cmp_Compare_int a0 a1 w post :=
 calls_of_vc tab_ok Tryz.func165 (by kernel_rfl) (Eq.mpr (by kernel_rfl) h)
/-- slices.Grow[[]scarp/api.Extent,scarp/api.Extent] -/
def f_slices_Grow_api_Extent_api_Extent (a0 : SV) (a1 : Int) (w : World) (post : SV → World → Prop) : Prop :=
 (bsplit (decide ((a1 : Int) < 0))
 (False)
 ((withI (IntKind.i64.wrap (a1 - (IntKind.i64.wrap (((a0.c : Nat) : Int) - ((a0.n : Nat) : Int))))) fun i1 =>
 (bsplit (decide ((0 : Int) < i1))
 ((0 ≤ (0 : Int) ∧ (0 : Int) ≤ (((a0.c : Nat) : Int) : Int) ∧ (((a0.c : Nat) : Int) : Int) ≤ ((a0.c : Nat) : Int) ∧
 (appendZ (⟨(sub? a0.a (0 : Int).toNat a0.c 2), ((((a0.c : Nat) : Int) : Int).toNat - (0 : Int).toNat), (a0.c - (0 : Int).toNat)⟩) i1 2 16 [.int .i64 0, .int .i64 0] 56 w fun (s2 : SV) w3 =>
 (0 ≤ (0 : Int) ∧ (0 : Int) ≤ (((a0.n : Nat) : Int) : Int) ∧ (((a0.n : Nat) : Int) : Int) ≤ ((s2.c : Nat) : Int) ∧
 post (⟨(sub? s2.a (0 : Int).toNat s2.c 2), ((((a0.n : Nat) : Int) : Int).toNat - (0 : Int).toNat), (s2.c - (0 : Int).toNat)⟩) w3))))
 (post (⟨a0.a, a0.n, a0.c⟩) w)))))
theorem slices_Grow_api_Extent_api_Extent_go {w : World} {a0 : SV} {a1 : Int} {post : RT [.cell (.slice)] → World → Prop} (h : f_slices_Grow_api_Extent_api_Extent a0 a1 w post) : c_slices_Grow_api_Extent_api_Extent a0 a1 w post :=
 calls_of_vc tab_ok Tryz.func166 (by kernel_rfl) (Eq.mpr (by kernel_rfl) h)
/-- (*scarp/ival.Set).Meets -/
def f_ival_Set_Meets (a0 : Option Addr) (a1c0 : Int) (a1c1 : Int) (w : World) (post : Bool → World → Prop) : Prop :=
 (withW (w.alloc (.cells #[.int .i64 a1c0, .int .i64 a1c1] 56)) fun w1 =>
 (bsplit ((a0).isNone)
 (post (false) w1)
 ((∃ g2 : Int × Int, (w1.cell? (⟨w.heap.size, 0, none⟩ : Addr) = some (.int .i64 g2.1) ∧ w1.cell? ((⟨w.heap.size, 0, none⟩ : Addr).add 1) = some (.int .i64 g2.2)) ∧
 (c_ival_may g2.1 g2.2 w1 fun (x3 : Bool) w4 =>
 (bsplit (!x3)
 (post (false) w4)
 ((onP a0 fun p5 =>
 (∃ s6 : SV, (w4.cell? (p5.add 1) = some (.slice s6.a s6.n s6.c)) ∧
 (c_slices_ContainsFunc_api_Extent_api_Extent_at_ival_Set_Meets_1 s6 (some (⟨w.heap.size, 0, none⟩ : Addr)) w4 fun (x7 : Bool) w8 =>
 post (x7) w8))))))))))
theorem ival_Set_Meets_go {w : World} {a0 : Option Addr} {a1c0 : Int} {a1c1 : Int} {post : RT [.cell (.bool)] → World → Prop} (h : f_ival_Set_Meets a0 a1c0 a1c1 w post) : c_ival_Set_Meets a0 a1c0 a1c1 w post :=
 calls_of_vc tab_ok Tryz.func171 (by kernel_rfl) (Eq.mpr (by kernel_rfl) h)
/-- slices.IndexFunc[[]scarp/api.Extent,scarp/api.Extent]; loop over (t4 : Int, t8 : Int) -/
def f_slices_IndexFunc_api_Extent_api_Extent_at_ival_all_1 (a0 : SV) (w : World) (post : Int → World → Prop) : Prop :=
 (loopR (α := Int × Int) (0, 0) w fun x1 w2 next3 =>
 (bsplit (decide ((x1.2 : Int) < ((a0.n : Nat) : Int)))
 ((0 ≤ (x1.2 : Int) ∧ (x1.2 : Int) < ((a0.n : Nat) : Int) ∧
 (onP a0.a fun p4 =>
 (∃ g5 : Int × Int, (w2.cell? (p4.add ((x1.2 : Int).toNat * 2)) = some (.int .i64 g5.1) ∧ w2.cell? ((p4.add ((x1.2 : Int).toNat * 2)).add 1) = some (.int .i64 g5.2)) ∧
 (c_ival_all_1 g5.1 g5.2 w2 fun (x6 : Bool) w7 =>
 (bsplit x6
 (post (x1.2) w7)
 (next3 (x1.1, (IntKind.i64.wrap (x1.2 + 1))) w7)))))))
 (post ((-1)) w2)))
theorem slices_IndexFunc_api_Extent_api_Extent_at_ival_all_1_go {w : World} {a0 : SV} {post : RT [.cell (.int .i64)] → World → Prop} (h : f_slices_IndexFunc_api_Extent_api_Extent_at_ival_all_1 a0 w post) : c_slices_IndexFunc_api_Extent_api_Extent_at_ival_all_1 a0 w post :=
 calls_of_vc tab_ok Tryz.func183 (by kernel_rfl) (Eq.mpr (by kernel_rfl) h)
/-- slices.IndexFunc[[]scarp/api.Extent,scarp/api.Extent]; loop over (t4 : Int, t8 : Int) -/
def f_slices_IndexFunc_api_Extent_api_Extent_at_ival_Set_Meets_1 (a0 : SV) (a1c0 : Option Addr) (w : World) (post : Int → World → Prop) : Prop :=
 (loopR (α := Int × Int) (0, 0) w fun x1 w2 next3 =>
 (bsplit (decide ((x1.2 : Int) < ((a0.n : Nat) : Int)))
 ((0 ≤ (x1.2 : Int) ∧ (x1.2 : Int) < ((a0.n : Nat) : Int) ∧
 (onP a0.a fun p4 =>
 (∃ g5 : Int × Int, (w2.cell? (p4.add ((x1.2 : Int).toNat * 2)) = some (.int .i64 g5.1) ∧ w2.cell? ((p4.add ((x1.2 : Int).toNat * 2)).add 1) = some (.int .i64 g5.2)) ∧
 (c_ival_Set_Meets_1 g5.1 g5.2 a1c0 w2 fun (x6 : Bool) w7 =>
 (bsplit x6
 (post (x1.2) w7)
 (next3 (x1.1, (IntKind.i64.wrap (x1.2 + 1))) w7)))))))
 (post ((-1)) w2)))
theorem slices_IndexFunc_api_Extent_api_Extent_at_ival_Set_Meets_1_go {w : World} {a0 : SV} {a1c0 : Option Addr} {post : RT [.cell (.int .i64)] → World → Prop} (h : f_slices_IndexFunc_api_Extent_api_Extent_at_ival_Set_Meets_1 a0 a1c0 w post) : c_slices_IndexFunc_api_Extent_api_Extent_at_ival_Set_Meets_1 a0 a1c0 w post :=
 calls_of_vc tab_ok Tryz.func183 (by kernel_rfl) (Eq.mpr (by kernel_rfl) h)
/-- cmp.isNaN[int] -/
def f_cmp_isNaN_int (a0 : Int) (w : World) (post : Bool → World → Prop) : Prop :=
 post ((!decide ((a0 : Int) = a0))) w
theorem cmp_isNaN_int_go {w : World} {a0 : Int} {post : RT [.cell (.bool)] → World → Prop} (h : f_cmp_isNaN_int a0 w post) : c_cmp_isNaN_int a0 w post :=
 calls_of_vc tab_ok Tryz.func185 (by kernel_rfl) (Eq.mpr (by kernel_rfl) h)
/-- (*scarp/ival.Set).Meets$1 -/
def f_ival_Set_Meets_1 (a0c0 : Int) (a0c1 : Int) (c0 : Option Addr) (w : World) (post : Bool → World → Prop) : Prop :=
 (withW (w.alloc (.cells #[.int .i64 a0c0, .int .i64 a0c1] 56)) fun w1 =>
 (∃ g2 : Int × Int, (w1.cell? (⟨w.heap.size, 0, none⟩ : Addr) = some (.int .i64 g2.1) ∧ w1.cell? ((⟨w.heap.size, 0, none⟩ : Addr).add 1) = some (.int .i64 g2.2)) ∧
 (onP c0 fun p3 =>
 (∃ g4 : Int × Int, (w1.cell? p3 = some (.int .i64 g4.1) ∧ w1.cell? (p3.add 1) = some (.int .i64 g4.2)) ∧
 (c_ival_meet g2.1 g2.2 g4.1 g4.2 w1 fun (x5 : Bool) w6 =>
 post (x5) w6)))))
theorem ival_Set_Meets_1_go {w : World} {a0c0 : Int} {a0c1 : Int} {c0 : Option Addr} {post : RT [.cell (.bool)] → World → Prop} (h : f_ival_Set_Meets_1 a0c0 a0c1 c0 w post) : c_ival_Set_Meets_1 a0c0 a0c1 c0 w post :=
 calls_of_vc tab_ok Tryz.func186 (by kernel_rfl) (Eq.mpr (by kernel_rfl) h)
/-- scarp/ival.meet -/
def f_ival_meet (a0c0 : Int) (a0c1 : Int) (a1c0 : Int) (a1c1 : Int) (w : World) (post : Bool → World → Prop) : Prop :=
 (withW (w.alloc (.cells #[.int .i64 a0c0, .int .i64 a0c1] 56)) fun w1 =>
 (withW (w1.alloc (.cells #[.int .i64 a1c0, .int .i64 a1c1] 56)) fun w2 =>
 (∃ n3 : Int, (w2.cell? (⟨w.heap.size, 0, none⟩ : Addr) = some (.int .i64 n3)) ∧
 (∃ n4 : Int, (w2.cell? (⟨w1.heap.size, 0, none⟩ : Addr) = some (.int .i64 n4)) ∧
 (∃ n5 : Int, (w2.cell? ((⟨w1.heap.size, 0, none⟩ : Addr).add 1) = some (.int .i64 n5)) ∧
 (bsplit (decide ((n3 : Int) < (IntKind.i64.wrap (n4 + n5))))
 ((∃ n6 : Int, (w2.cell? (⟨w1.heap.size, 0, none⟩ : Addr) = some (.int .i64 n6)) ∧
 (∃ n7 : Int, (w2.cell? (⟨w.heap.size, 0, none⟩ : Addr) = some (.int .i64 n7)) ∧
 (∃ n8 : Int, (w2.cell? ((⟨w.heap.size, 0, none⟩ : Addr).add 1) = some (.int .i64 n8)) ∧
 post ((decide ((n6 : Int) < (IntKind.i64.wrap (n7 + n8))))) w2))))
 (post (false) w2)))))))
theorem ival_meet_go {w : World} {a0c0 : Int} {a0c1 : Int} {a1c0 : Int} {a1c1 : Int} {post : RT [.cell (.bool)] → World → Prop} (h : f_ival_meet a0c0 a0c1 a1c0 a1c1 w post) : c_ival_meet a0c0 a0c1 a1c0 a1c1 w post :=
 calls_of_vc tab_ok Tryz.func187 (by kernel_rfl) (Eq.mpr (by kernel_rfl) h)
end Go.Proofs.YtbolgpjcmchfoaaGreat
