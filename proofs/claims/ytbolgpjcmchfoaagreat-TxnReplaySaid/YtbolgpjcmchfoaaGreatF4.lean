/- Readable conditions of functions, each tied to its own code by the kernel. -/
import Derived.Test.YtbolgpjcmchfoaaGreatTab
namespace Go.Proofs.YtbolgpjcmchfoaaGreat
open Go Go.Vc
set_option linter.unusedVariables false
/-- scarp/scarpref23.New -/
def f_scarpref23_New (a0 : Int) (a1 : Int) (w : World) (post : ((Option Addr) × Int) → World → Prop) : Prop :=
 (c_scarpref11_NewMap a0 w fun (x1 : (Option Addr) × Int) w2 =>
 (bsplit (!decide ((x1.2 : Int) = 0))
 (post (none, 1) w2)
 ((bsplit (decide ((a1 : Int) < 0))
 (post (none, 1) w2)
 ((bsplit (decide ((1099511627776 : Int) < a1))
 (post (none, 1) w2)
 ((withW (w2.alloc (.cells #[.pointer x1.1, .int .i64 16, .slice none 0 0, .slice none 0 0, .int .i64 0, .slice none 0 0, .slice none 0 0, .slice none 0 0, .int .i64 0, .int .i64 0, .int .i64 a1, .int .i64 a1, .bool false, .int .i64 a0, .int .i64 a1] 96)) fun w3 =>
 post ((some (⟨w2.heap.size, 0, none⟩ : Addr)), 0) w3))))))))
theorem scarpref23_New_go {w : World} {a0 : Int} {a1 : Int} {post : RT [.cell (.ptr), .cell (.int .i64)] → World → Prop} (h : f_scarpref23_New a0 a1 w post) : c_scarpref23_New a0 a1 w post :=
 calls_of_vc tab_ok Tryz.func41 (by kernel_rfl) (Eq.mpr (by kernel_rfl) h)
/-- scarp/scarpref20.Replay; loop over (t4 : Option Addr, t5 : Int, i : Int) -/
def f_scarpref20_Replay (a0 : Int) (a1 : SV) (w : World) (post : ((Option Addr) × Int) → World → Prop) : Prop :=
 (c_scarpref20_New a0 w fun (x1 : (Option Addr) × Int) w2 =>
 (bsplit (!decide ((x1.2 : Int) = 0))
 (post (none, x1.2) w2)
 ((c_scarpref20_Order a1 w2 fun (x3 : SV) w4 =>
 (loopR (α := (Option Addr) × Int × Int) (none, 0, 0) w4 fun x5 w6 next7 =>
 (bsplit (decide ((x5.2.2 : Int) < ((x3.n : Nat) : Int)))
 ((0 ≤ (x5.2.2 : Int) ∧ (x5.2.2 : Int) < ((x3.n : Nat) : Int) ∧
 (onP x3.a fun p8 =>
 (∃ n9 : Int, (w6.cell? (p8.add ((x5.2.2 : Int).toNat * 1)) = some (.int .i64 n9)) ∧ (0 ≤ (n9 : Int) ∧ (n9 : Int) < ((a1.n : Nat) : Int) ∧
 (onP a1.a fun p10 =>
 (∃ s11 : SV, (w6.cell? ((p10.add ((n9 : Int).toNat * 7)).add 6) = some (.slice s11.a s11.n s11.c)) ∧
 (c_scarpref20_M_Run x1.1 0 s11 w6 fun (x12 : Int) w13 =>
 (bsplit (!decide ((x12 : Int) = 0))
 (post (none, x12) w13)
 ((withI (IntKind.i64.wrap (x5.2.2 + 1)) fun i14 =>
 next7 (x5.1, x5.2.1, i14) w13)))))))))))
 (post (x1.1, 0) w6)))))))
theorem scarpref20_Replay_go {w : World} {a0 : Int} {a1 : SV} {post : RT [.cell (.ptr), .cell (.int .i64)] → World → Prop} (h : f_scarpref20_Replay a0 a1 w post) : c_scarpref20_Replay a0 a1 w post :=
 calls_of_vc tab_ok Tryz.func44 (by kernel_rfl) (Eq.mpr (by kernel_rfl) h)
/-- scarp/scarpref20.New -/
def f_scarpref20_New (a0 : Int) (w : World) (post : ((Option Addr) × Int) → World → Prop) : Prop :=
 (bsplit (decide ((a0 : Int) < 1))
 (post (none, 1) w)
 ((bsplit (decide ((1048576 : Int) < a0))
 (post (none, 1) w)
 ((0 ≤ (a0 : Int) ∧ (a0 : Int) ≤ a0 ∧ ((24 : Nat) : Int) * a0 ≤ 2 ^ 48 ∧ (a0 : Int) ≤ 2 ^ 48 ∧
 (withW (w.alloc (.cells (zrow [.slice none 0 0] (a0 : Int).toNat).toArray 30)) fun w1 =>
 (withW (w1.alloc (.cells #[.slice (some (⟨w.heap.size, 0, none⟩ : Addr))
 ((a0 : Int).toNat)
 ((a0 : Int).toNat)] 141)) fun w2 =>
 post ((some (⟨w1.heap.size, 0, none⟩ : Addr)), 0) w2)))))))
theorem scarpref20_New_go {w : World} {a0 : Int} {post : RT [.cell (.ptr), .cell (.int .i64)] → World → Prop} (h : f_scarpref20_New a0 w post) : c_scarpref20_New a0 w post :=
 calls_of_vc tab_ok Tryz.func45 (by kernel_rfl) (Eq.mpr (by kernel_rfl) h)
/-- (*scarp/scarpref20.M).Run; loop over (t4 : Int, t5 : Int); loop over (t4 : Int, t6 : Int); loop over (t4 : Int, t7 : Int); loop over (t8 : Int) -/
def f_scarpref20_M_Run (a0 : Option Addr) (a1c0 : Int) (a1c1 : SV) (w : World) (post : Int → World → Prop) : Prop :=
 (withW (w.alloc (.cells #[.int .i64 a1c0, .slice a1c1.a a1c1.n a1c1.c] 70)) fun w1 =>
 (loopR (α := Int × Int) (0, 0) w1 fun x2 w3 next4 =>
 (∃ s5 : SV, (w3.cell? ((⟨w.heap.size, 0, none⟩ : Addr).add 1) = some (.slice s5.a s5.n s5.c)) ∧
 (bsplit (decide ((x2.2 : Int) < ((s5.n : Nat) : Int)))
 ((withW w3.drew fun w6 =>
 (∃ s7 : SV, (w6.cell? ((⟨w.heap.size, 0, none⟩ : Addr).add 1) = some (.slice s7.a s7.n s7.c)) ∧ (0 ≤ (x2.2 : Int) ∧ (x2.2 : Int) < ((s7.n : Nat) : Int) ∧
 (onP s7.a fun p8 =>
 (∃ n9 : Int, (w6.cell? (p8.add ((x2.2 : Int).toNat * 2)) = some (.int .i64 n9)) ∧
 (bsplit (decide ((n9 : Int) < 0))
 (post (2) w6)
 ((∃ s10 : SV, (w6.cell? ((⟨w.heap.size, 0, none⟩ : Addr).add 1) = some (.slice s10.a s10.n s10.c)) ∧ (0 ≤ (x2.2 : Int) ∧ (x2.2 : Int) < ((s10.n : Nat) : Int) ∧
 (onP s10.a fun p11 =>
 (∃ n12 : Int, (w6.cell? (p11.add ((x2.2 : Int).toNat * 2)) = some (.int .i64 n12)) ∧
 (onP a0 fun p13 =>
 (∃ s14 : SV, (w6.cell? p13 = some (.slice s14.a s14.n s14.c)) ∧
 (bsplit (decide ((((s14.n : Nat) : Int) : Int) ≤ n12))
 (post (2) w6)
 (next4 (x2.1, (IntKind.i64.wrap (x2.2 + 1))) w6))))))))))))))))
 ((loopR (α := Int × Int) (x2.1, 0) w3 fun x15 w16 next17 =>
 (∃ s18 : SV, (w16.cell? ((⟨w.heap.size, 0, none⟩ : Addr).add 1) = some (.slice s18.a s18.n s18.c)) ∧
 (bsplit (decide ((x15.2 : Int) < ((s18.n : Nat) : Int)))
 ((∃ s19 : SV, (w16.cell? ((⟨w.heap.size, 0, none⟩ : Addr).add 1) = some (.slice s19.a s19.n s19.c)) ∧ (0 ≤ (x15.2 : Int) ∧ (x15.2 : Int) < ((s19.n : Nat) : Int) ∧
 (onP s19.a fun p20 =>
 (∃ s21 : SV, (w16.cell? ((p20.add ((x15.2 : Int).toNat * 2)).add 1) = some (.slice s21.a s21.n s21.c)) ∧
 (bsplit (!decide ((((s21.n : Nat) : Int) : Int) = 40))
 (post (1) w16)
 ((loopR (α := Int × Int) (x15.1, 0) w16 fun x22 w23 next24 =>
 (bsplit (decide ((x22.2 : Int) < x15.2))
 ((withW w23.drew fun w25 =>
 (∃ s26 : SV, (w25.cell? ((⟨w.heap.size, 0, none⟩ : Addr).add 1) = some (.slice s26.a s26.n s26.c)) ∧ (0 ≤ (x22.2 : Int) ∧ (x22.2 : Int) < ((s26.n : Nat) : Int) ∧
 (onP s26.a fun p27 =>
 (∃ n28 : Int, (w25.cell? (p27.add ((x22.2 : Int).toNat * 2)) = some (.int .i64 n28)) ∧
 (∃ s29 : SV, (w25.cell? ((⟨w.heap.size, 0, none⟩ : Addr).add 1) = some (.slice s29.a s29.n s29.c)) ∧ (0 ≤ (x15.2 : Int) ∧ (x15.2 : Int) < ((s29.n : Nat) : Int) ∧
 (onP s29.a fun p30 =>
 (∃ n31 : Int, (w25.cell? (p30.add ((x15.2 : Int).toNat * 2)) = some (.int .i64 n31)) ∧
 (bsplit (decide ((n28 : Int) = n31))
 (post (1) w25)
 (next24 (x22.1, (IntKind.i64.wrap (x22.2 + 1))) w25))))))))))))
 (next17 (x22.1, (IntKind.i64.wrap (x15.2 + 1))) w23))))))))))
 ((loopR (α := Int) (0) w16 fun x32 w33 next34 =>
 (∃ s35 : SV, (w33.cell? ((⟨w.heap.size, 0, none⟩ : Addr).add 1) = some (.slice s35.a s35.n s35.c)) ∧
 (bsplit (decide ((x32 : Int) < ((s35.n : Nat) : Int)))
 ((withW w33.drew fun w37 =>
 (∃ S36 : World → Prop, S36 w37 ∧
 (onP a0 fun p38 =>
 (∃ s39 : SV, ((∀ w40, S36 w40 → w40.cell? p38 = some (.slice s39.a s39.n s39.c))) ∧
 (∃ s41 : SV, ((∀ w42, S36 w42 → w42.cell? ((⟨w.heap.size, 0, none⟩ : Addr).add 1) = some (.slice s41.a s41.n s41.c))) ∧ (0 ≤ (x32 : Int) ∧ (x32 : Int) < ((s41.n : Nat) : Int) ∧
 (onP s41.a fun p43 =>
 (∃ n44 : Int, ((∀ w45, S36 w45 → w45.cell? (p43.add ((x32 : Int).toNat * 2)) = some (.int .i64 n44))) ∧
 (∃ s46 : SV, ((∀ w47, S36 w47 → w47.cell? ((⟨w.heap.size, 0, none⟩ : Addr).add 1) = some (.slice s46.a s46.n s46.c))) ∧ (0 ≤ (x32 : Int) ∧ (x32 : Int) < ((s46.n : Nat) : Int) ∧
 (onP s46.a fun p48 =>
 (∃ s49 : SV, ((∀ w50, S36 w50 → w50.cell? ((p48.add ((x32 : Int).toNat * 2)).add 1) = some (.slice s49.a s49.n s49.c))) ∧
 (withW (w37.alloc (.cells #[] 5)) fun w51 =>
 (S36 w51 ∧
 (appendR (⟨(some (⟨w37.heap.size, 0, none⟩ : Addr)), 0, 0⟩) s49 1 1 [.int .u8 0] 5 w51 fun (s52 : SV) w53 =>
 (S36 w53 ∧ (0 ≤ (n44 : Int) ∧ (n44 : Int) < ((s39.n : Nat) : Int) ∧
 (onP s39.a fun p54 =>
 ((((∃ u, w53.cell? (p54.add ((n44 : Int).toNat * 1)) = some u) ∧ w53.frozen? (p54.add ((n44 : Int).toNat * 1)) = false)) ∧ (true = true) ∧
 (withW (w53.setCell (p54.add ((n44 : Int).toNat * 1)) (.slice s52.a s52.n s52.c)) fun w55 =>
 next34 ((IntKind.i64.wrap (x32 + 1))) w55)))))))))))))))))))))
 (post (0) w33)))))))))))))
theorem scarpref20_M_Run_go {w : World} {a0 : Option Addr} {a1c0 : Int} {a1c1 : SV} {post : RT [.cell (.int .i64)] → World → Prop} (h : f_scarpref20_M_Run a0 a1c0 a1c1 w post) : c_scarpref20_M_Run a0 a1c0 a1c1 w post :=
 calls_of_vc tab_ok Tryz.func46 (by kernel_rfl) (Eq.mpr (by kernel_rfl) h)
/-- (*scarp/scarpref20.M).All; loop over (l : SV, i : Int) -/
def f_scarpref20_M_All (a0 : Option Addr) (w : World) (post : SV → World → Prop) : Prop :=
 (loopR (α := SV × Int) (⟨none, 0, 0⟩, 0) w fun x1 w2 next3 =>
 (onP a0 fun p4 =>
 (∃ s5 : SV, (w2.cell? p4 = some (.slice s5.a s5.n s5.c)) ∧
 (bsplit (decide ((x1.2 : Int) < ((s5.n : Nat) : Int)))
 ((onP a0 fun p6 =>
 (∃ s7 : SV, (w2.cell? p6 = some (.slice s7.a s7.n s7.c)) ∧ (0 ≤ (x1.2 : Int) ∧ (x1.2 : Int) < ((s7.n : Nat) : Int) ∧
 (onP s7.a fun p8 =>
 (∃ s9 : SV, (w2.cell? (p8.add ((x1.2 : Int).toNat * 1)) = some (.slice s9.a s9.n s9.c)) ∧
 (c_scarpref20_blank s9 w2 fun (x10 : Bool) w11 =>
 (bsplit (!x10)
 ((onP a0 fun p12 =>
 (∃ s13 : SV, (w11.cell? p12 = some (.slice s13.a s13.n s13.c)) ∧ (0 ≤ (x1.2 : Int) ∧ (x1.2 : Int) < ((s13.n : Nat) : Int) ∧
 (onP s13.a fun p14 =>
 (∃ s15 : SV, (w11.cell? (p14.add ((x1.2 : Int).toNat * 1)) = some (.slice s15.a s15.n s15.c)) ∧
 (withW (w11.alloc (.cells #[.int .i64 x1.2, .slice s15.a s15.n s15.c] 33)) fun w16 =>
 (appendR x1.1 (⟨(some (⟨w11.heap.size, 0, none⟩ : Addr)), 1, 1⟩) 2 32 [.int .i64 0, .slice none 0 0] 33 w16 fun (s17 : SV) w18 =>
 next3 (⟨s17.a, s17.n, s17.c⟩, (IntKind.i64.wrap (x1.2 + 1))) w18))))))))
 (next3 (⟨x1.1.a, x1.1.n, x1.1.c⟩, (IntKind.i64.wrap (x1.2 + 1))) w11)))))))))
 (post (⟨x1.1.a, x1.1.n, x1.1.c⟩) w2)))))
theorem scarpref20_M_All_go {w : World} {a0 : Option Addr} {post : RT [.cell (.slice)] → World → Prop} (h : f_scarpref20_M_All a0 w post) : c_scarpref20_M_All a0 w post :=
 calls_of_vc tab_ok Tryz.func47 (by kernel_rfl) (Eq.mpr (by kernel_rfl) h)
/-- scarp/scarpref11.NewMap -/
def f_scarpref11_NewMap (a0 : Int) (w : World) (post : ((Option Addr) × Int) → World → Prop) : Prop :=
 (bsplit (decide ((a0 : Int) < 1))
 (post (none, 1) w)
 ((bsplit (decide ((1048576 : Int) < a0))
 (post (none, 1) w)
 ((withW (w.alloc (.cells #[.int .i64 a0, .slice none 0 0, .int .i64 0] 147)) fun w1 =>
 post ((some (⟨w.heap.size, 0, none⟩ : Addr)), 0) w1)))))
theorem scarpref11_NewMap_go {w : World} {a0 : Int} {post : RT [.cell (.ptr), .cell (.int .i64)] → World → Prop} (h : f_scarpref11_NewMap a0 w post) : c_scarpref11_NewMap a0 w post :=
 calls_of_vc tab_ok Tryz.func78 (by kernel_rfl) (Eq.mpr (by kernel_rfl) h)
/-- (*scarp/scarpref23.Manager).Begin -/
def f_scarpref23_Manager_Begin (a0 : Option Addr) (w : World) (post : (Int × Int) → World → Prop) : Prop :=
 (withW w.drew fun w2 =>
 (∃ S1 : World → Prop, S1 w2 ∧
 (onP a0 fun p3 =>
 (onP a0 fun p4 =>
 (∃ n5 : Int, ((∀ w6, S1 w6 → w6.cell? (p4.add 11) = some (.int .i64 n5))) ∧
 (c_scarpref11_Book_Open (some (p3.add 1)) n5 w2 fun (x7 : Int × Int) w8 =>
 (S1 w8 ∧
 (bsplit (!decide ((x7.2 : Int) = 0))
 (post (0, x7.2) w8)
 ((onP a0 fun p9 =>
 (∃ n10 : Int, (w8.cell? (p9.add 13) = some (.int .i64 n10)) ∧
 (c_scarpref11_NewBuf n10 16 w8 fun (x11 : (Option Addr) × Int) w12 =>
 (withW w12.drew fun w14 =>
 (∃ S13 : World → Prop, S13 w14 ∧
 (onP a0 fun p15 =>
 (∃ s16 : SV, ((∀ w17, S13 w17 → w17.cell? (p15.add 5) = some (.slice s16.a s16.n s16.c))) ∧
 (onP a0 fun p18 =>
 (∃ q19 : Option Addr, ((∀ w20, S13 w20 → w20.cell? p18 = some (.pointer q19))) ∧
 (onP a0 fun p21 =>
 (∃ n22 : Int, ((∀ w23, S13 w23 → w23.cell? (p21.add 11) = some (.int .i64 n22))) ∧
 (c_scarpref11_NewView q19 x11.1 n22 w14 fun (x24 : (Option Addr)) w25 =>
 (S13 w25 ∧
 (withW (w25.alloc (.cells #[.int .i64 1, .int .i64 0, .int .i64 0, .pointer x24, .pointer x11.1] 152)) fun w26 =>
 (S13 w26 ∧
 (withW (w26.alloc (.cells #[.pointer (some (⟨w25.heap.size, 0, none⟩ : Addr))] 148)) fun w27 =>
 (S13 w27 ∧
 (appendR s16 (⟨(some (⟨w26.heap.size, 0, none⟩ : Addr)), 1, 1⟩) 1 8 [.pointer none] 148 w27 fun (s28 : SV) w29 =>
 (S13 w29 ∧
 (onP a0 fun p30 =>
 ((((∃ u, w29.cell? (p30.add 5) = some u) ∧ w29.frozen? (p30.add 5) = false)) ∧ (true = true) ∧
 (withW (w29.setCell (p30.add 5) (.slice s28.a s28.n s28.c)) fun w31 =>
 post (x7.1, 0) w31)))))))))))))))))))))))))))))))
theorem scarpref23_Manager_Begin_go {w : World} {a0 : Option Addr} {post : RT [.cell (.int .i64), .cell (.int .i64)] → World → Prop} (h : f_scarpref23_Manager_Begin a0 w post) : c_scarpref23_Manager_Begin a0 w post :=
 calls_of_vc tab_ok Tryz.func79 (by kernel_rfl) (Eq.mpr (by kernel_rfl) h)
/-- (*scarp/scarpref23.Manager).Read -/
def f_scarpref23_Manager_Read (a0 : Option Addr) (a1 : Int) (a2c0 : Int) (a2c1 : Int) (w : World) (post : (SV × Int) → World → Prop) : Prop :=
 (withW (w.alloc (.cells #[.int .i64 a2c0, .int .i64 a2c1] 56)) fun w1 =>
 (c_scarpref23_Manager_open a0 a1 w1 fun (x2 : (Option Addr)) w3 =>
 (bsplit ((x2).isNone)
 (post (⟨none, 0, 0⟩, 5) w3)
 ((withW w3.drew fun w5 =>
 (∃ S4 : World → Prop, S4 w5 ∧
 (onP x2 fun p6 =>
 (∃ q7 : Option Addr, ((∀ w8, S4 w8 → w8.cell? (p6.add 3) = some (.pointer q7))) ∧
 (∃ g9 : Int × Int, ((∀ w10, S4 w10 → w10.cell? (⟨w.heap.size, 0, none⟩ : Addr) = some (.int .i64 g9.1) ∧ w10.cell? ((⟨w.heap.size, 0, none⟩ : Addr).add 1) = some (.int .i64 g9.2))) ∧
 (c_scarpref11_View_Read q7 g9.1 g9.2 w5 fun (x11 : SV × Int) w12 =>
 (S4 w12 ∧ post (⟨x11.1.a, x11.1.n, x11.1.c⟩, x11.2) w12)))))))))))
theorem scarpref23_Manager_Read_go {w : World} {a0 : Option Addr} {a1 : Int} {a2c0 : Int} {a2c1 : Int} {post : RT [.cell (.slice), .cell (.int .i64)] → World → Prop} (h : f_scarpref23_Manager_Read a0 a1 a2c0 a2c1 w post) : c_scarpref23_Manager_Read a0 a1 a2c0 a2c1 w post :=
 calls_of_vc tab_ok Tryz.func80 (by kernel_rfl) (Eq.mpr (by kernel_rfl) h)
/-- (*scarp/scarpref23.Manager).Write -/
def f_scarpref23_Manager_Write (a0 : Option Addr) (a1 : Int) (a2 : SV) (w : World) (post : Int → World → Prop) : Prop :=
 (c_scarpref23_Manager_open a0 a1 w fun (x1 : (Option Addr)) w2 =>
 (bsplit ((x1).isNone)
 (post (5) w2)
 ((onP x1 fun p3 =>
 (∃ q4 : Option Addr, (w2.cell? (p3.add 4) = some (.pointer q4)) ∧
 (c_scarpref11_Buf_Write q4 a2 w2 fun (x5 : Int) w6 =>
 post (x5) w6))))))
theorem scarpref23_Manager_Write_go {w : World} {a0 : Option Addr} {a1 : Int} {a2 : SV} {post : RT [.cell (.int .i64)] → World → Prop} (h : f_scarpref23_Manager_Write a0 a1 a2 w post) : c_scarpref23_Manager_Write a0 a1 a2 w post :=
 calls_of_vc tab_ok Tryz.func81 (by kernel_rfl) (Eq.mpr (by kernel_rfl) h)
/-- (*scarp/scarpref23.Manager).Commit -/
def f_scarpref23_Manager_Commit_p2 (S58 : World → Prop) (w75 : World) (s73 : SV) (w74 : World) (a0 : Option Addr) (a1 : Int) (post : Int → World → Prop) : Prop :=
 (S58 w75 ∧
 (appendR s73 (⟨(some (⟨w74.heap.size, 0, none⟩ : Addr)), 1, 1⟩) 2 32 [.int .i64 0, .slice none 0 0] 70 w75 fun (s76 : SV) w77 =>
 (S58 w77 ∧
 (onP a0 fun p78 =>
 ((((∃ u, w77.cell? (p78.add 6) = some u) ∧ w77.frozen? (p78.add 6) = false)) ∧ (true = true) ∧
 (withW (w77.setCell (p78.add 6) (.slice s76.a s76.n s76.c)) fun w79 =>
 (withW (w79.alloc (.cells #[] 3)) fun w80 =>
 (onP a0 fun p81 =>
 (∃ s82 : SV, (w80.cell? (p81.add 7) = some (.slice s82.a s82.n s82.c)) ∧
 (appendR (⟨(some (⟨w79.heap.size, 0, none⟩ : Addr)), 0, 0⟩) s82 1 8 [.int .i64 0] 3 w80 fun (s83 : SV) w84 =>
 (withW (w84.alloc (.cells #[.int .i64 a1] 3)) fun w85 =>
 (appendR s83 (⟨(some (⟨w84.heap.size, 0, none⟩ : Addr)), 1, 1⟩) 1 8 [.int .i64 0] 3 w85 fun (s86 : SV) w87 =>
 (onP a0 fun p88 =>
 ((((∃ u, w87.cell? (p88.add 7) = some u) ∧ w87.frozen? (p88.add 7) = false)) ∧ (true = true) ∧
 (withW (w87.setCell (p88.add 7) (.slice s86.a s86.n s86.c)) fun w89 =>
 post (0) w89)))))))))))))))
def f_scarpref23_Manager_Commit_p1 (S58 : World → Prop) (w90 : World) (w59 : World) (s61 : SV) (w72 : World) (a0 : Option Addr) (a1 : Int) (post : Int → World → Prop) : Prop :=
 (S58 w90 ∧
 (appendR (⟨(some (⟨w59.heap.size, 0, none⟩ : Addr)), 0, 0⟩) s61 2 32 [.int .i64 0, .slice none 0 0] 70 w90 fun (s91 : SV) w92 =>
 (f_scarpref23_Manager_Commit_p2 S58 w92 s91 w72 a0 a1 post)))
def f_scarpref23_Manager_Commit (a0 : Option Addr) (a1 : Int) (w : World) (post : Int → World → Prop) : Prop :=
 (c_scarpref23_Manager_open a0 a1 w fun (x1 : (Option Addr)) w2 =>
 (bsplit ((x1).isNone)
 (post (5) w2)
 ((onP x1 fun p3 =>
 (∃ q4 : Option Addr, (w2.cell? (p3.add 4) = some (.pointer q4)) ∧
 (onP q4 fun p5 =>
 (∃ s6 : SV, (w2.cell? (p5.add 2) = some (.slice s6.a s6.n s6.c)) ∧
 (bsplit (decide ((((s6.n : Nat) : Int) : Int) = 0))
 ((onP x1 fun p7 =>
 (∃ q8 : Option Addr, (w2.cell? (p7.add 3) = some (.pointer q8)) ∧
 (onP q8 fun p9 =>
 (∃ n10 : Int, (w2.cell? (p9.add 2) = some (.int .i64 n10)) ∧
 (c_scarpref23_Manager_end a0 a1 3 n10 0 w2 fun (x11 : Unit) w12 =>
 post (0) w12))))))
 ((onP a0 fun p13 =>
 (∃ b14 : Bool, (w2.cell? (p13.add 12) = some (.bool b14)) ∧
 (bsplit b14 ((c_scarpref23_Manager_end a0 a1 4 0 10 w2 fun (x15 : Unit) w16 =>
 post (10) w16))
 ((withW w2.drew fun w18 =>
 (∃ S17 : World → Prop, S17 w18 ∧
 (onP a0 fun p19 =>
 (∃ q20 : Option Addr, ((∀ w21, S17 w21 → w21.cell? p19 = some (.pointer q20))) ∧
 (onP a0 fun p22 =>
 (∃ s23 : SV, ((∀ w24, S17 w24 → w24.cell? (p22.add 6) = some (.slice s23.a s23.n s23.c))) ∧
 (onP x1 fun p25 =>
 (∃ q26 : Option Addr, ((∀ w27, S17 w27 → w27.cell? (p25.add 3) = some (.pointer q26))) ∧
 (onP q26 fun p28 =>
 (∃ n29 : Int, ((∀ w30, S17 w30 → w30.cell? (p28.add 2) = some (.int .i64 n29))) ∧
 (onP x1 fun p31 =>
 (∃ q32 : Option Addr, ((∀ w33, S17 w33 → w33.cell? (p31.add 3) = some (.pointer q32))) ∧
 (onP q32 fun p34 =>
 (onP x1 fun p35 =>
 (∃ q36 : Option Addr, ((∀ w37, S17 w37 → w37.cell? (p35.add 4) = some (.pointer q36))) ∧
 (c_scarpref11_Buf_Set q36 w18 fun (x38 : (Option Addr)) w39 =>
 (S17 w39 ∧
 (c_scarpref11_Valid q20 s23 n29 (some (p34.add 3)) x38 w39 fun (x40 : Int) w41 =>
 (S17 w41 ∧
 (bsplit (!decide ((x40 : Int) = 0))
 ((c_scarpref23_Manager_end a0 a1 4 0 8 w41 fun (x42 : Unit) w43 =>
 post (8) w43))
 ((onP a0 fun p44 =>
 (∃ n45 : Int, (w41.cell? (p44.add 10) = some (.int .i64 n45)) ∧
 (bsplit (decide ((1099511627776 : Int) ≤ n45))
 ((c_scarpref23_Manager_end a0 a1 4 0 11 w41 fun (x46 : Unit) w47 =>
 post (11) w47))
 ((onP a0 fun p48 =>
 (∃ n49 : Int, (w41.cell? (p48.add 10) = some (.int .i64 n49)) ∧
 (onP a0 fun p50 =>
 ((((∃ u, w41.cell? (p50.add 10) = some u) ∧ w41.frozen? (p50.add 10) = false)) ∧ (true = true) ∧
 (withW (w41.setCell (p50.add 10) (.int .i64 (IntKind.i64.wrap (n49 + 1)))) fun w51 =>
 (onP x1 fun p52 =>
 ((((∃ u, w51.cell? p52 = some u) ∧ w51.frozen? p52 = false)) ∧ (true = true) ∧
 (withW (w51.setCell p52 (.int .i64 2)) fun w53 =>
 (onP a0 fun p54 =>
 (∃ n55 : Int, (w53.cell? (p54.add 10) = some (.int .i64 n55)) ∧
 (onP x1 fun p56 =>
 ((((∃ u, w53.cell? (p56.add 1) = some u) ∧ w53.frozen? (p56.add 1) = false)) ∧ (true = true) ∧
 (withW (w53.setCell (p56.add 1) (.int .i64 n55)) fun w57 =>
 (withW w57.drew fun w59 =>
 (∃ S58 : World → Prop, S58 w59 ∧
 (onP a0 fun p60 =>
 (∃ s61 : SV, ((∀ w62, S58 w62 → w62.cell? (p60.add 6) = some (.slice s61.a s61.n s61.c))) ∧
 (onP a0 fun p63 =>
 (∃ n64 : Int, ((∀ w65, S58 w65 → w65.cell? (p63.add 10) = some (.int .i64 n64))) ∧
 (onP x1 fun p66 =>
 (∃ q67 : Option Addr, ((∀ w68, S58 w68 → w68.cell? (p66.add 4) = some (.pointer q67))) ∧
 (onP q67 fun p69 =>
 (∃ s70 : SV, ((∀ w71, S58 w71 → w71.cell? (p69.add 2) = some (.slice s70.a s70.n s70.c))) ∧ ((withW (w59.alloc (.cells #[] 70)) fun w72 =>
 (S58 w72 ∧ ((appendR (⟨(some (⟨w59.heap.size, 0, none⟩ : Addr)), 0, 0⟩) s61 2 32 [.int .i64 0, .slice none 0 0] 70 w72 fun (s73 : SV) w74 =>
 (S58 w74 ∧
 (withW (w74.alloc (.cells #[.int .i64 n64, .slice s70.a s70.n s70.c] 70)) fun w75 =>
 (f_scarpref23_Manager_Commit_p2 S58 w75 s73 w74 a0 a1 post)))) ∧
 (withW (w72.alloc (.cells #[.int .i64 n64, .slice s70.a s70.n s70.c] 70)) fun w90 =>
 (f_scarpref23_Manager_Commit_p1 S58 w90 w59 s61 w72 a0 a1 post))))) ∧
 (withW (w59.alloc (.cells #[.int .i64 n64, .slice s70.a s70.n s70.c] 70)) fun w107 =>
 (S58 w107 ∧
 (withW (w107.alloc (.cells #[] 70)) fun w108 =>
 (f_scarpref23_Manager_Commit_p1 S58 w108 w107 s61 w59 a0 a1 post))))))))))))))))))))))))))))))))))))))))))))))))))))))))))))))))))
theorem scarpref23_Manager_Commit_go {w : World} {a0 : Option Addr} {a1 : Int} {post : RT [.cell (.int .i64)] → World → Prop} (h : f_scarpref23_Manager_Commit a0 a1 w post) : c_scarpref23_Manager_Commit a0 a1 w post :=
 calls_of_vc tab_ok Tryz.func82 (by kernel_rfl) (Eq.mpr (by kernel_rfl) h)
/-- (*scarp/scarpref23.Manager).Abort -/
def f_scarpref23_Manager_Abort (a0 : Option Addr) (a1 : Int) (w : World) (post : Int → World → Prop) : Prop :=
 (c_scarpref23_Manager_open a0 a1 w fun (x1 : (Option Addr)) w2 =>
 (bsplit ((x1).isNone)
 (post (5) w2)
 ((c_scarpref23_Manager_end a0 a1 4 0 0 w2 fun (x3 : Unit) w4 =>
 post (0) w4))))
theorem scarpref23_Manager_Abort_go {w : World} {a0 : Option Addr} {a1 : Int} {post : RT [.cell (.int .i64)] → World → Prop} (h : f_scarpref23_Manager_Abort a0 a1 w post) : c_scarpref23_Manager_Abort a0 a1 w post :=
 calls_of_vc tab_ok Tryz.func83 (by kernel_rfl) (Eq.mpr (by kernel_rfl) h)
/-- (*scarp/scarpref23.Manager).Batch -/
def f_scarpref23_Manager_Batch (a0 : Option Addr) (w : World) (post : ((Int × SV) × Int) → World → Prop) : Prop :=
 (withW (w.alloc (.cells #[.int .i64 0, .slice none 0 0] 42)) fun w1 =>
 (onP a0 fun p2 =>
 (∃ n3 : Int, (w1.cell? (p2.add 8) = some (.int .i64 n3)) ∧
 (bsplit (decide ((0 : Int) < n3))
 (((((∃ u, w1.cell? (⟨w.heap.size, 0, none⟩ : Addr) = some u) ∧ w1.frozen? (⟨w.heap.size, 0, none⟩ : Addr) = false) ∧ ((∃ u, w1.cell? ((⟨w.heap.size, 0, none⟩ : Addr).add 1) = some u) ∧ w1.frozen? ((⟨w.heap.size, 0, none⟩ : Addr).add 1) = false)) ∧ (true = true) ∧
 (withW ((w1.setCell (⟨w.heap.size, 0, none⟩ : Addr) (.int .i64 0)).setCell ((⟨w.heap.size, 0, none⟩ : Addr).add 1) (.slice none 0 0)) fun w4 =>
 (∃ g5 : Int × SV, (w4.cell? (⟨w.heap.size, 0, none⟩ : Addr) = some (.int .i64 g5.1) ∧ w4.cell? ((⟨w.heap.size, 0, none⟩ : Addr).add 1) = some (.slice g5.2.a g5.2.n g5.2.c)) ∧ post ((g5.1, ⟨g5.2.a, g5.2.n, g5.2.c⟩), 16) w4))))
 ((onP a0 fun p6 =>
 (∃ s7 : SV, (w1.cell? (p6.add 6) = some (.slice s7.a s7.n s7.c)) ∧
 (bsplit (decide ((((s7.n : Nat) : Int) : Int) = 0))
 (((((∃ u, w1.cell? (⟨w.heap.size, 0, none⟩ : Addr) = some u) ∧ w1.frozen? (⟨w.heap.size, 0, none⟩ : Addr) = false) ∧ ((∃ u, w1.cell? ((⟨w.heap.size, 0, none⟩ : Addr).add 1) = some u) ∧ w1.frozen? ((⟨w.heap.size, 0, none⟩ : Addr).add 1) = false)) ∧ (true = true) ∧
 (withW ((w1.setCell (⟨w.heap.size, 0, none⟩ : Addr) (.int .i64 0)).setCell ((⟨w.heap.size, 0, none⟩ : Addr).add 1) (.slice none 0 0)) fun w8 =>
 (∃ g9 : Int × SV, (w8.cell? (⟨w.heap.size, 0, none⟩ : Addr) = some (.int .i64 g9.1) ∧ w8.cell? ((⟨w.heap.size, 0, none⟩ : Addr).add 1) = some (.slice g9.2.a g9.2.n g9.2.c)) ∧ post ((g9.1, ⟨g9.2.a, g9.2.n, g9.2.c⟩), 14) w8))))
 ((onP a0 fun p10 =>
 (∃ s11 : SV, (w1.cell? (p10.add 6) = some (.slice s11.a s11.n s11.c)) ∧
 (c_scarpref11_Form s11 w1 fun (x12 : Int) w13 =>
 (onP a0 fun p14 =>
 ((((∃ u, w13.cell? (p14.add 8) = some u) ∧ w13.frozen? (p14.add 8) = false)) ∧ (true = true) ∧
 (withW (w13.setCell (p14.add 8) (.int .i64 x12)) fun w15 =>
 (withW w15.drew fun w17 =>
 (∃ S16 : World → Prop, S16 w17 ∧
 (onP a0 fun p18 =>
 (∃ n19 : Int, ((∀ w20, S16 w20 → w20.cell? (p18.add 9) = some (.int .i64 n19))) ∧
 (onP a0 fun p21 =>
 (∃ s22 : SV, ((∀ w23, S16 w23 → w23.cell? (p21.add 6) = some (.slice s22.a s22.n s22.c))) ∧
 (onP a0 fun p24 =>
 (∃ n25 : Int, ((∀ w26, S16 w26 → w26.cell? (p24.add 8) = some (.int .i64 n25))) ∧ (0 ≤ (0 : Int) ∧ (0 : Int) ≤ (n25 : Int) ∧ (n25 : Int) ≤ ((s22.c : Nat) : Int) ∧ ((((∃ u, w17.cell? (⟨w.heap.size, 0, none⟩ : Addr) = some u) ∧ w17.frozen? (⟨w.heap.size, 0, none⟩ : Addr) = false) ∧ ((∃ u, w17.cell? ((⟨w.heap.size, 0, none⟩ : Addr).add 1) = some u) ∧ w17.frozen? ((⟨w.heap.size, 0, none⟩ : Addr).add 1) = false)) ∧ (true = true) ∧
 (withW ((w17.setCell (⟨w.heap.size, 0, none⟩ : Addr) (.int .i64 (IntKind.i64.wrap (n19 + 1)))).setCell ((⟨w.heap.size, 0, none⟩ : Addr).add 1) (.slice (sub? s22.a (0 : Int).toNat s22.c 2)
 ((n25 : Int).toNat - (0 : Int).toNat) (s22.c - (0 : Int).toNat))) fun w27 =>
 (S16 w27 ∧
 (∃ g28 : Int × SV, (w27.cell? (⟨w.heap.size, 0, none⟩ : Addr) = some (.int .i64 g28.1) ∧ w27.cell? ((⟨w.heap.size, 0, none⟩ : Addr).add 1) = some (.slice g28.2.a g28.2.n g28.2.c)) ∧ post ((g28.1, ⟨g28.2.a, g28.2.n, g28.2.c⟩), 0) w27))))))))))))))))))))))))))))
theorem scarpref23_Manager_Batch_go {w : World} {a0 : Option Addr} {post : RT [.agg [.int .i64, .slice], .cell (.int .i64)] → World → Prop} (h : f_scarpref23_Manager_Batch a0 w post) : c_scarpref23_Manager_Batch a0 w post :=
 calls_of_vc tab_ok Tryz.func84 (by kernel_rfl) (Eq.mpr (by kernel_rfl) h)
/-- (*scarp/scarpref23.Manager).Done; loop over (t5 : Int) -/
def f_scarpref23_Manager_Done_p1 (w47 : World) (a0 : Option Addr) (post : Int → World → Prop) : Prop :=
 (withW w47.drew fun w49 =>
 (∃ S48 : World → Prop, S48 w49 ∧
 (onP a0 fun p50 =>
 (∃ s51 : SV, ((∀ w52, S48 w52 → w52.cell? (p50.add 6) = some (.slice s51.a s51.n s51.c))) ∧
 (onP a0 fun p53 =>
 (∃ n54 : Int, ((∀ w55, S48 w55 → w55.cell? (p53.add 8) = some (.int .i64 n54))) ∧ (0 ≤ (n54 : Int) ∧ (n54 : Int) ≤ (((s51.n : Nat) : Int) : Int) ∧ (((s51.n : Nat) : Int) : Int) ≤ ((s51.c : Nat) : Int) ∧
 (onP a0 fun p56 =>
 ((((∃ u, w49.cell? (p56.add 6) = some u) ∧ w49.frozen? (p56.add 6) = false)) ∧ (true = true) ∧
 (withW (w49.setCell (p56.add 6) (.slice (sub? s51.a (n54 : Int).toNat s51.c 2)
 ((((s51.n : Nat) : Int) : Int).toNat - (n54 : Int).toNat) (s51.c - (n54 : Int).toNat))) fun w57 =>
 (withW w57.drew fun w59 =>
 (∃ S58 : World → Prop, S58 w59 ∧
 (onP a0 fun p60 =>
 (∃ s61 : SV, ((∀ w62, S58 w62 → w62.cell? (p60.add 7) = some (.slice s61.a s61.n s61.c))) ∧
 (onP a0 fun p63 =>
 (∃ n64 : Int, ((∀ w65, S58 w65 → w65.cell? (p63.add 8) = some (.int .i64 n64))) ∧ (0 ≤ (n64 : Int) ∧ (n64 : Int) ≤ (((s61.n : Nat) : Int) : Int) ∧ (((s61.n : Nat) : Int) : Int) ≤ ((s61.c : Nat) : Int) ∧
 (onP a0 fun p66 =>
 ((((∃ u, w59.cell? (p66.add 7) = some u) ∧ w59.frozen? (p66.add 7) = false)) ∧ (true = true) ∧
 (withW (w59.setCell (p66.add 7) (.slice (sub? s61.a (n64 : Int).toNat s61.c 1)
 ((((s61.n : Nat) : Int) : Int).toNat - (n64 : Int).toNat) (s61.c - (n64 : Int).toNat))) fun w67 =>
 (onP a0 fun p68 =>
 ((((∃ u, w67.cell? (p68.add 8) = some u) ∧ w67.frozen? (p68.add 8) = false)) ∧ (true = true) ∧
 (withW (w67.setCell (p68.add 8) (.int .i64 0)) fun w69 =>
 post (0) w69)))))))))))))))))))))))
def f_scarpref23_Manager_Done (a0 : Option Addr) (a1 : Int) (w : World) (post : Int → World → Prop) : Prop :=
 (onP a0 fun p1 =>
 (∃ n2 : Int, (w.cell? (p1.add 8) = some (.int .i64 n2)) ∧
 (bsplit (decide ((n2 : Int) = 0))
 (post (14) w)
 ((loopR (α := Int) (0) w fun x3 w4 next5 =>
 (onP a0 fun p6 =>
 (∃ n7 : Int, (w4.cell? (p6.add 8) = some (.int .i64 n7)) ∧
 (bsplit (decide ((x3 : Int) < n7))
 ((onP a0 fun p8 =>
 (∃ s9 : SV, (w4.cell? (p8.add 6) = some (.slice s9.a s9.n s9.c)) ∧ (0 ≤ (x3 : Int) ∧ (x3 : Int) < ((s9.n : Nat) : Int) ∧
 (onP s9.a fun p10 =>
 (∃ g11 : Int × SV, (w4.cell? (p10.add ((x3 : Int).toNat * 2)) = some (.int .i64 g11.1) ∧ w4.cell? ((p10.add ((x3 : Int).toNat * 2)).add 1) = some (.slice g11.2.a g11.2.n g11.2.c)) ∧
 (withW (w4.alloc (.cells #[.int .i64 0, .slice none 0 0] 70)) fun w12 =>
 ((((∃ u, w12.cell? (⟨w4.heap.size, 0, none⟩ : Addr) = some u) ∧ w12.frozen? (⟨w4.heap.size, 0, none⟩ : Addr) = false) ∧ ((∃ u, w12.cell? ((⟨w4.heap.size, 0, none⟩ : Addr).add 1) = some u) ∧ w12.frozen? ((⟨w4.heap.size, 0, none⟩ : Addr).add 1) = false)) ∧ (true = true) ∧
 (withW ((w12.setCell (⟨w4.heap.size, 0, none⟩ : Addr) (.int .i64 g11.1)).setCell ((⟨w4.heap.size, 0, none⟩ : Addr).add 1) (.slice g11.2.a g11.2.n g11.2.c)) fun w13 =>
 (bsplit (!decide ((a1 : Int) = 0))
 ((onP a0 fun p14 =>
 (∃ s15 : SV, (w13.cell? (p14.add 7) = some (.slice s15.a s15.n s15.c)) ∧ (0 ≤ (x3 : Int) ∧ (x3 : Int) < ((s15.n : Nat) : Int) ∧
 (onP s15.a fun p16 =>
 (∃ n17 : Int, (w13.cell? (p16.add ((x3 : Int).toNat * 1)) = some (.int .i64 n17)) ∧
 (c_scarpref23_Manager_end a0 n17 4 0 a1 w13 fun (x18 : Unit) w19 =>
 next5 ((IntKind.i64.wrap (x3 + 1))) w19)))))))
 ((withW w13.drew fun w21 =>
 (∃ S20 : World → Prop, S20 w21 ∧
 (onP a0 fun p22 =>
 (∃ q23 : Option Addr, ((∀ w24, S20 w24 → w24.cell? p22 = some (.pointer q23))) ∧
 (∃ g25 : Int × SV, ((∀ w26, S20 w26 → w26.cell? (⟨w4.heap.size, 0, none⟩ : Addr) = some (.int .i64 g25.1) ∧ w26.cell? ((⟨w4.heap.size, 0, none⟩ : Addr).add 1) = some (.slice g25.2.a g25.2.n g25.2.c))) ∧
 (c_scarpref11_Map_Apply q23 g25.1 g25.2 w21 fun (x27 : Int) w28 =>
 (S20 w28 ∧
 (∃ n29 : Int, (w28.cell? (⟨w4.heap.size, 0, none⟩ : Addr) = some (.int .i64 n29)) ∧
 (onP a0 fun p30 =>
 ((((∃ u, w28.cell? (p30.add 11) = some u) ∧ w28.frozen? (p30.add 11) = false)) ∧ (true = true) ∧
 (withW (w28.setCell (p30.add 11) (.int .i64 n29)) fun w31 =>
 (withW w31.drew fun w33 =>
 (∃ S32 : World → Prop, S32 w33 ∧
 (onP a0 fun p34 =>
 (∃ s35 : SV, ((∀ w36, S32 w36 → w36.cell? (p34.add 7) = some (.slice s35.a s35.n s35.c))) ∧ (0 ≤ (x3 : Int) ∧ (x3 : Int) < ((s35.n : Nat) : Int) ∧
 (onP s35.a fun p37 =>
 (∃ n38 : Int, ((∀ w39, S32 w39 → w39.cell? (p37.add ((x3 : Int).toNat * 1)) = some (.int .i64 n38))) ∧
 (∃ n40 : Int, ((∀ w41, S32 w41 → w41.cell? (⟨w4.heap.size, 0, none⟩ : Addr) = some (.int .i64 n40))) ∧
 (c_scarpref23_Manager_end a0 n38 3 n40 0 w33 fun (x42 : Unit) w43 =>
 (S32 w43 ∧ next5 ((IntKind.i64.wrap (x3 + 1))) w43))))))))))))))))))))))))))))))))
 ((bsplit (decide ((a1 : Int) = 0))
 ((onP a0 fun p44 =>
 (∃ n45 : Int, (w4.cell? (p44.add 9) = some (.int .i64 n45)) ∧
 (onP a0 fun p46 =>
 ((((∃ u, w4.cell? (p46.add 9) = some u) ∧ w4.frozen? (p46.add 9) = false)) ∧ (true = true) ∧
 (withW (w4.setCell (p46.add 9) (.int .i64 (IntKind.i64.wrap (n45 + 1)))) fun w47 =>
 (f_scarpref23_Manager_Done_p1 w47 a0 post)))))))
 ((f_scarpref23_Manager_Done_p1 w4 a0 post))))))))))))
theorem scarpref23_Manager_Done_go {w : World} {a0 : Option Addr} {a1 : Int} {post : RT [.cell (.int .i64)] → World → Prop} (h : f_scarpref23_Manager_Done a0 a1 w post) : c_scarpref23_Manager_Done a0 a1 w post :=
 calls_of_vc tab_ok Tryz.func86 (by kernel_rfl) (Eq.mpr (by kernel_rfl) h)
/-- (*scarp/scarpref23.Manager).Prune -/
def f_scarpref23_Manager_Prune (a0 : Option Addr) (w : World) (post : Int → World → Prop) : Prop :=
 (withW w.drew fun w2 =>
 (∃ S1 : World → Prop, S1 w2 ∧
 (onP a0 fun p3 =>
 (∃ q4 : Option Addr, ((∀ w5, S1 w5 → w5.cell? p3 = some (.pointer q4))) ∧
 (onP a0 fun p6 =>
 (onP a0 fun p7 =>
 (∃ n8 : Int, ((∀ w9, S1 w9 → w9.cell? (p7.add 11) = some (.int .i64 n8))) ∧
 (c_scarpref11_Book_Low (some (p6.add 1)) n8 w2 fun (x10 : Int) w11 =>
 (S1 w11 ∧
 (c_scarpref11_Map_Prune q4 x10 w11 fun (x12 : Int) w13 =>
 (S1 w13 ∧ post (x12) w13)))))))))))
theorem scarpref23_Manager_Prune_go {w : World} {a0 : Option Addr} {post : RT [.cell (.int .i64)] → World → Prop} (h : f_scarpref23_Manager_Prune a0 w post) : c_scarpref23_Manager_Prune a0 w post :=
 calls_of_vc tab_ok Tryz.func87 (by kernel_rfl) (Eq.mpr (by kernel_rfl) h)
/-- scarp/scarpref20.Order; loop over (t3 : SV, t4 : Int); loop over (t5 : Int); loop over (t6 : Int); loop over (t6 : Int) -/
def f_scarpref20_Order_p1 (w11 : World) (x1 : SV × Int) (x8 : Int) (next3 : (SV × Int) → World → Prop) : Prop :=
 ((withW (w11.alloc (.cells #[.int .i64 0] 3)) fun w18 =>
 (appendR x1.1 (⟨(some (⟨w11.heap.size, 0, none⟩ : Addr)), 1, 1⟩) 1 8 [.int .i64 0] 3 w18 fun (s19 : SV) w20 =>
 (withI (IntKind.i64.wrap (((s19.n : Nat) : Int) - 1)) fun i21 =>
 (loopR (α := Int) (i21) w20 fun x22 w23 next24 =>
 (bsplit (decide ((x8 : Int) < x22))
 ((0 ≤ ((IntKind.i64.wrap (x22 - 1)) : Int) ∧ ((IntKind.i64.wrap (x22 - 1)) : Int) < ((s19.n : Nat) : Int) ∧
 (onP s19.a fun p25 =>
 (∃ n26 : Int, (w23.cell? (p25.add (((IntKind.i64.wrap (x22 - 1)) : Int).toNat * 1)) = some (.int .i64 n26)) ∧ (0 ≤ (x22 : Int) ∧ (x22 : Int) < ((s19.n : Nat) : Int) ∧
 (onP s19.a fun p27 =>
 ((((∃ u, w23.cell? (p27.add ((x22 : Int).toNat * 1)) = some u) ∧ w23.frozen? (p27.add ((x22 : Int).toNat * 1)) = false)) ∧ (true = true) ∧
 (withW (w23.setCell (p27.add ((x22 : Int).toNat * 1)) (.int .i64 n26)) fun w28 =>
 next24 ((IntKind.i64.wrap (x22 - 1))) w28))))))))
 ((0 ≤ (x8 : Int) ∧ (x8 : Int) < ((s19.n : Nat) : Int) ∧
 (onP s19.a fun p29 =>
 ((((∃ u, w23.cell? (p29.add ((x8 : Int).toNat * 1)) = some u) ∧ w23.frozen? (p29.add ((x8 : Int).toNat * 1)) = false)) ∧ (true = true) ∧
 (withW (w23.setCell (p29.add ((x8 : Int).toNat * 1)) (.int .i64 x1.2)) fun w30 =>
 next3 (⟨s19.a, s19.n, s19.c⟩, (IntKind.i64.wrap (x1.2 + 1))) w30)))))))))))
def f_scarpref20_Order (a0 : SV) (w : World) (post : SV → World → Prop) : Prop :=
 (loopR (α := SV × Int) (⟨none, 0, 0⟩, 0) w fun x1 w2 next3 =>
 (bsplit (decide ((x1.2 : Int) < ((a0.n : Nat) : Int)))
 ((0 ≤ (x1.2 : Int) ∧ (x1.2 : Int) < ((a0.n : Nat) : Int) ∧
 (onP a0.a fun p4 =>
 (∃ g5 : Int × Int × Int × Int × Int × SV × SV, (w2.cell? (p4.add ((x1.2 : Int).toNat * 7)) = some (.int .i64 g5.1) ∧ w2.cell? ((p4.add ((x1.2 : Int).toNat * 7)).add 1) = some (.int .i64 g5.2.1) ∧ w2.cell? ((p4.add ((x1.2 : Int).toNat * 7)).add 2) = some (.int .i64 g5.2.2.1) ∧ w2.cell? ((p4.add ((x1.2 : Int).toNat * 7)).add 3) = some (.int .i64 g5.2.2.2.1) ∧ w2.cell? ((p4.add ((x1.2 : Int).toNat * 7)).add 4) = some (.int .i64 g5.2.2.2.2.1) ∧ w2.cell? ((p4.add ((x1.2 : Int).toNat * 7)).add 5) = some (.slice g5.2.2.2.2.2.1.a g5.2.2.2.2.2.1.n g5.2.2.2.2.2.1.c) ∧ w2.cell? ((p4.add ((x1.2 : Int).toNat * 7)).add 6) = some (.slice g5.2.2.2.2.2.2.a g5.2.2.2.2.2.2.n g5.2.2.2.2.2.2.c)) ∧
 (c_scarpref20_Wrote g5.1 g5.2.1 g5.2.2.1 g5.2.2.2.1 g5.2.2.2.2.1 g5.2.2.2.2.2.1 g5.2.2.2.2.2.2 w2 fun (x6 : Bool) w7 =>
 (bsplit (!x6)
 (next3 (⟨x1.1.a, x1.1.n, x1.1.c⟩, (IntKind.i64.wrap (x1.2 + 1))) w7)
 ((loopR (α := Int)
 (((x1.1.n : Nat) : Int)) w7 fun x8 w9 next10 =>
 (withW w9.drew fun w11 =>
 (bsplit (decide ((0 : Int) < x8))
 ((0 ≤ ((IntKind.i64.wrap (x8 - 1)) : Int) ∧ ((IntKind.i64.wrap (x8 - 1)) : Int) < ((x1.1.n : Nat) : Int) ∧
 (onP x1.1.a fun p12 =>
 (∃ n13 : Int, (w11.cell? (p12.add (((IntKind.i64.wrap (x8 - 1)) : Int).toNat * 1)) = some (.int .i64 n13)) ∧ (0 ≤ (n13 : Int) ∧ (n13 : Int) < ((a0.n : Nat) : Int) ∧
 (onP a0.a fun p14 =>
 (∃ n15 : Int, (w11.cell? ((p14.add ((n13 : Int).toNat * 7)).add 2) = some (.int .i64 n15)) ∧ (0 ≤ (x1.2 : Int) ∧ (x1.2 : Int) < ((a0.n : Nat) : Int) ∧
 (onP a0.a fun p16 =>
 (∃ n17 : Int, (w11.cell? ((p16.add ((x1.2 : Int).toNat * 7)).add 2) = some (.int .i64 n17)) ∧
 (bsplit (decide ((n17 : Int) < n15))
 (next10 ((IntKind.i64.wrap (x8 - 1))) w11) (f_scarpref20_Order_p1 w11 x1 x8 next3)))))))))))) (f_scarpref20_Order_p1 w11 x1 x8 next3)))))))))))
 (post (⟨x1.1.a, x1.1.n, x1.1.c⟩) w2)))
theorem scarpref20_Order_go {w : World} {a0 : SV} {post : RT [.cell (.slice)] → World → Prop} (h : f_scarpref20_Order a0 w post) : c_scarpref20_Order a0 w post :=
 calls_of_vc tab_ok Tryz.func89 (by kernel_rfl) (Eq.mpr (by kernel_rfl) h)
/-- scarp/scarpref20.blank; loop over (t2 : Bool, i : Int) -/
def f_scarpref20_blank (a0 : SV) (w : World) (post : Bool → World → Prop) : Prop :=
 (loopR (α := Bool × Int) (false, 0) w fun x1 w2 next3 =>
 (bsplit (decide ((x1.2 : Int) < ((a0.n : Nat) : Int)))
 ((0 ≤ (x1.2 : Int) ∧ (x1.2 : Int) < ((a0.n : Nat) : Int) ∧
 (onP a0.a fun p4 =>
 (∃ n5 : Int, (w2.cell? (p4.add ((x1.2 : Int).toNat * 1)) = some (.int .u8 n5)) ∧
 (bsplit (!decide ((n5 : Int) = 0))
 (post (false) w2)
 (next3 (x1.1, (IntKind.i64.wrap (x1.2 + 1))) w2))))))
 (post (true) w2)))
theorem scarpref20_blank_go {w : World} {a0 : SV} {post : RT [.cell (.bool)] → World → Prop} (h : f_scarpref20_blank a0 w post) : c_scarpref20_blank a0 w post :=
 calls_of_vc tab_ok Tryz.func90 (by kernel_rfl) (Eq.mpr (by kernel_rfl) h)
/-- (*scarp/scarpref11.Map).Apply; loop over (t4 : Int, t5 : Int); loop over (t4 : Int, t6 : Int); loop over (t4 : Int, t7 : Int); loop over (t8 : SV, t9 : Int, t10 : Int); loop over (t8 : SV, t9 : Int) -/
def f_scarpref11_Map_Apply_p1 (w47 : World) (w : World) (x44 : SV × Int) (next46 : (SV × Int) → World → Prop) : Prop :=
 ((withW w47.drew fun w52 =>
 (∃ S51 : World → Prop, S51 w52 ∧
 (∃ s53 : SV, ((∀ w54, S51 w54 → w54.cell? ((⟨w.heap.size, 0, none⟩ : Addr).add 1) = some (.slice s53.a s53.n s53.c))) ∧ (0 ≤ (x44.2 : Int) ∧ (x44.2 : Int) < ((s53.n : Nat) : Int) ∧
 (onP s53.a fun p55 =>
 (∃ n56 : Int, ((∀ w57, S51 w57 → w57.cell? (p55.add ((x44.2 : Int).toNat * 2)) = some (.int .i64 n56))) ∧
 (∃ n58 : Int, ((∀ w59, S51 w59 → w59.cell? (⟨w.heap.size, 0, none⟩ : Addr) = some (.int .i64 n58))) ∧
 (∃ s60 : SV, ((∀ w61, S51 w61 → w61.cell? ((⟨w.heap.size, 0, none⟩ : Addr).add 1) = some (.slice s60.a s60.n s60.c))) ∧ (0 ≤ (x44.2 : Int) ∧ (x44.2 : Int) < ((s60.n : Nat) : Int) ∧
 (onP s60.a fun p62 =>
 (∃ s63 : SV, ((∀ w64, S51 w64 → w64.cell? ((p62.add ((x44.2 : Int).toNat * 2)).add 1) = some (.slice s63.a s63.n s63.c))) ∧
 (withW (w52.alloc (.cells #[] 5)) fun w65 =>
 (S51 w65 ∧
 (appendR (⟨(some (⟨w52.heap.size, 0, none⟩ : Addr)), 0, 0⟩) s63 1 1 [.int .u8 0] 5 w65 fun (s66 : SV) w67 =>
 (S51 w67 ∧
 (withW (w67.alloc (.cells #[.int .i64 n56, .int .i64 n58, .slice s66.a s66.n s66.c] 161)) fun w68 =>
 (S51 w68 ∧
 (appendR x44.1 (⟨(some (⟨w67.heap.size, 0, none⟩ : Addr)), 1, 1⟩) 3 40 [.int .i64 0, .int .i64 0, .slice none 0 0] 161 w68 fun (s69 : SV) w70 =>
 (S51 w70 ∧ next46 (⟨s69.a, s69.n, s69.c⟩, (IntKind.i64.wrap (x44.2 + 1))) w70))))))))))))))))))))
def f_scarpref11_Map_Apply_p2 (a0 : Option Addr) (w47 : World) (x39 : SV × Int × Int) (x44 : SV × Int) (next41 : (SV × Int × Int) → World → Prop) : Prop :=
 (onP a0 fun p98 =>
 (∃ s99 : SV, (w47.cell? (p98.add 1) = some (.slice s99.a s99.n s99.c)) ∧
 (bsplit (decide ((x39.2.2 : Int) < ((s99.n : Nat) : Int)))
 ((onP a0 fun p100 =>
 (∃ s101 : SV, (w47.cell? (p100.add 1) = some (.slice s101.a s101.n s101.c)) ∧ (0 ≤ (x39.2.2 : Int) ∧ (x39.2.2 : Int) < ((s101.n : Nat) : Int) ∧
 (onP s101.a fun p102 =>
 (∃ g103 : Int × Int × SV, (w47.cell? (p102.add ((x39.2.2 : Int).toNat * 3)) = some (.int .i64 g103.1) ∧ w47.cell? ((p102.add ((x39.2.2 : Int).toNat * 3)).add 1) = some (.int .i64 g103.2.1) ∧ w47.cell? ((p102.add ((x39.2.2 : Int).toNat * 3)).add 2) = some (.slice g103.2.2.a g103.2.2.n g103.2.2.c)) ∧
 (withW (w47.alloc (.cells #[.int .i64 g103.1, .int .i64 g103.2.1, .slice g103.2.2.a g103.2.2.n g103.2.2.c] 161)) fun w104 =>
 (appendR x44.1 (⟨(some (⟨w47.heap.size, 0, none⟩ : Addr)), 1, 1⟩) 3 40 [.int .i64 0, .int .i64 0, .slice none 0 0] 161 w104 fun (s105 : SV) w106 =>
 (withI (IntKind.i64.wrap (x39.2.2 + 1)) fun i107 =>
 next41 (⟨s105.a, s105.n, s105.c⟩, x44.2, i107) w106)))))))))
 ((withI (IntKind.i64.wrap (x39.2.2 + 1)) fun i108 =>
 next41 (⟨x44.1.a, x44.1.n, x44.1.c⟩, x44.2, i108) w47)))))
def f_scarpref11_Map_Apply (a0 : Option Addr) (a1c0 : Int) (a1c1 : SV) (w : World) (post : Int → World → Prop) : Prop :=
 (withW (w.alloc (.cells #[.int .i64 a1c0, .slice a1c1.a a1c1.n a1c1.c] 70)) fun w1 =>
 (withW w1.drew fun w2 =>
 (∃ n3 : Int, (w2.cell? (⟨w.heap.size, 0, none⟩ : Addr) = some (.int .i64 n3)) ∧
 (onP a0 fun p4 =>
 (∃ n5 : Int, (w2.cell? (p4.add 2) = some (.int .i64 n5)) ∧
 (bsplit (decide ((n3 : Int) ≤ n5))
 (post (11) w2)
 ((∃ n6 : Int, (w2.cell? (⟨w.heap.size, 0, none⟩ : Addr) = some (.int .i64 n6)) ∧
 (bsplit (decide ((1099511627776 : Int) < n6))
 (post (11) w2)
 ((∃ s7 : SV, (w2.cell? ((⟨w.heap.size, 0, none⟩ : Addr).add 1) = some (.slice s7.a s7.n s7.c)) ∧
 (bsplit (decide ((((s7.n : Nat) : Int) : Int) = 0))
 (post (1) w2)
 ((loopR (α := Int × Int) (0, 1) w2 fun x8 w9 next10 =>
 (∃ s11 : SV, (w9.cell? ((⟨w.heap.size, 0, none⟩ : Addr).add 1) = some (.slice s11.a s11.n s11.c)) ∧
 (bsplit (decide ((x8.2 : Int) < ((s11.n : Nat) : Int)))
 ((withW w9.drew fun w12 =>
 (∃ s13 : SV, (w12.cell? ((⟨w.heap.size, 0, none⟩ : Addr).add 1) = some (.slice s13.a s13.n s13.c)) ∧ (0 ≤ (x8.2 : Int) ∧ (x8.2 : Int) < ((s13.n : Nat) : Int) ∧
 (onP s13.a fun p14 =>
 (∃ n15 : Int, (w12.cell? (p14.add ((x8.2 : Int).toNat * 2)) = some (.int .i64 n15)) ∧
 (∃ s16 : SV, (w12.cell? ((⟨w.heap.size, 0, none⟩ : Addr).add 1) = some (.slice s16.a s16.n s16.c)) ∧ (0 ≤ ((IntKind.i64.wrap (x8.2 - 1)) : Int) ∧ ((IntKind.i64.wrap (x8.2 - 1)) : Int) < ((s16.n : Nat) : Int) ∧
 (onP s16.a fun p17 =>
 (∃ n18 : Int, (w12.cell? (p17.add (((IntKind.i64.wrap (x8.2 - 1)) : Int).toNat * 2)) = some (.int .i64 n18)) ∧
 (bsplit (decide ((n15 : Int) ≤ n18))
 (post (1) w12)
 (next10 (x8.1, (IntKind.i64.wrap (x8.2 + 1))) w12))))))))))))
 ((loopR (α := Int × Int) (x8.1, 0) w9 fun x19 w20 next21 =>
 (∃ s22 : SV, (w20.cell? ((⟨w.heap.size, 0, none⟩ : Addr).add 1) = some (.slice s22.a s22.n s22.c)) ∧
 (bsplit (decide ((x19.2 : Int) < ((s22.n : Nat) : Int)))
 ((withW w20.drew fun w23 =>
 (∃ s24 : SV, (w23.cell? ((⟨w.heap.size, 0, none⟩ : Addr).add 1) = some (.slice s24.a s24.n s24.c)) ∧ (0 ≤ (x19.2 : Int) ∧ (x19.2 : Int) < ((s24.n : Nat) : Int) ∧
 (onP s24.a fun p25 =>
 (∃ n26 : Int, (w23.cell? (p25.add ((x19.2 : Int).toNat * 2)) = some (.int .i64 n26)) ∧
 (bsplit (decide ((n26 : Int) < 0))
 (post (2) w23)
 ((∃ s27 : SV, (w23.cell? ((⟨w.heap.size, 0, none⟩ : Addr).add 1) = some (.slice s27.a s27.n s27.c)) ∧ (0 ≤ (x19.2 : Int) ∧ (x19.2 : Int) < ((s27.n : Nat) : Int) ∧
 (onP s27.a fun p28 =>
 (∃ n29 : Int, (w23.cell? (p28.add ((x19.2 : Int).toNat * 2)) = some (.int .i64 n29)) ∧
 (onP a0 fun p30 =>
 (∃ n31 : Int, (w23.cell? p30 = some (.int .i64 n31)) ∧
 (bsplit (decide ((n31 : Int) ≤ n29))
 (post (2) w23)
 (next21 (x19.1, (IntKind.i64.wrap (x19.2 + 1))) w23))))))))))))))))
 ((loopR (α := Int × Int) (x19.1, 0) w20 fun x32 w33 next34 =>
 (∃ s35 : SV, (w33.cell? ((⟨w.heap.size, 0, none⟩ : Addr).add 1) = some (.slice s35.a s35.n s35.c)) ∧
 (bsplit (decide ((x32.2 : Int) < ((s35.n : Nat) : Int)))
 ((∃ s36 : SV, (w33.cell? ((⟨w.heap.size, 0, none⟩ : Addr).add 1) = some (.slice s36.a s36.n s36.c)) ∧ (0 ≤ (x32.2 : Int) ∧ (x32.2 : Int) < ((s36.n : Nat) : Int) ∧
 (onP s36.a fun p37 =>
 (∃ s38 : SV, (w33.cell? ((p37.add ((x32.2 : Int).toNat * 2)).add 1) = some (.slice s38.a s38.n s38.c)) ∧
 (bsplit (!decide ((((s38.n : Nat) : Int) : Int) = 40))
 (post (3) w33)
 (next34 (x32.1, (IntKind.i64.wrap (x32.2 + 1))) w33)))))))
 ((loopR (α := SV × Int × Int) (⟨none, 0, 0⟩, 0, 0) w33 fun x39 w40 next41 =>
 (onP a0 fun p42 =>
 (∃ s43 : SV, (w40.cell? (p42.add 1) = some (.slice s43.a s43.n s43.c)) ∧
 (bsplit (decide ((x39.2.2 : Int) ≤ ((s43.n : Nat) : Int)))
 ((loopR (α := SV × Int) (⟨x39.1.a, x39.1.n, x39.1.c⟩, x39.2.1) w40 fun x44 w45 next46 =>
 (withW w45.drew fun w47 =>
 (∃ s48 : SV, (w47.cell? ((⟨w.heap.size, 0, none⟩ : Addr).add 1) = some (.slice s48.a s48.n s48.c)) ∧
 (bsplit (decide ((x44.2 : Int) < ((s48.n : Nat) : Int)))
 ((onP a0 fun p49 =>
 (∃ s50 : SV, (w47.cell? (p49.add 1) = some (.slice s50.a s50.n s50.c)) ∧
 (bsplit (decide ((x39.2.2 : Int) = ((s50.n : Nat) : Int))) (f_scarpref11_Map_Apply_p1 w47 w x44 next46)
 ((∃ s71 : SV, (w47.cell? ((⟨w.heap.size, 0, none⟩ : Addr).add 1) = some (.slice s71.a s71.n s71.c)) ∧ (0 ≤ (x44.2 : Int) ∧ (x44.2 : Int) < ((s71.n : Nat) : Int) ∧
 (onP s71.a fun p72 =>
 (∃ n73 : Int, (w47.cell? (p72.add ((x44.2 : Int).toNat * 2)) = some (.int .i64 n73)) ∧
 (onP a0 fun p74 =>
 (∃ s75 : SV, (w47.cell? (p74.add 1) = some (.slice s75.a s75.n s75.c)) ∧ (0 ≤ (x39.2.2 : Int) ∧ (x39.2.2 : Int) < ((s75.n : Nat) : Int) ∧
 (onP s75.a fun p76 =>
 (∃ n77 : Int, (w47.cell? (p76.add ((x39.2.2 : Int).toNat * 3)) = some (.int .i64 n77)) ∧
 (bsplit (decide ((n73 : Int) < n77)) (f_scarpref11_Map_Apply_p1 w47 w x44 next46)
 ((f_scarpref11_Map_Apply_p2 a0 w47 x39 x44 next41)))))))))))))))))
 ((f_scarpref11_Map_Apply_p2 a0 w47 x39 x44 next41)))))))
 ((onP a0 fun p120 =>
 ((((∃ u, w40.cell? (p120.add 1) = some u) ∧ w40.frozen? (p120.add 1) = false)) ∧ (true = true) ∧
 (withW (w40.setCell (p120.add 1) (.slice x39.1.a x39.1.n x39.1.c)) fun w121 =>
 (∃ n122 : Int, (w121.cell? (⟨w.heap.size, 0, none⟩ : Addr) = some (.int .i64 n122)) ∧
 (onP a0 fun p123 =>
 ((((∃ u, w121.cell? (p123.add 2) = some u) ∧ w121.frozen? (p123.add 2) = false)) ∧ (true = true) ∧
 (withW (w121.setCell (p123.add 2) (.int .i64 n122)) fun w124 =>
 post (0) w124)))))))))))))))))))))))))))))))))))))
theorem scarpref11_Map_Apply_go {w : World} {a0 : Option Addr} {a1c0 : Int} {a1c1 : SV} {post : RT [.cell (.int .i64)] → World → Prop} (h : f_scarpref11_Map_Apply a0 a1c0 a1c1 w post) : c_scarpref11_Map_Apply a0 a1c0 a1c1 w post :=
 calls_of_vc tab_ok Tryz.func91 (by kernel_rfl) (Eq.mpr (by kernel_rfl) h)
/-- (*scarp/scarpref11.Book).Open -/
def f_scarpref11_Book_Open_p2 (S10 : World → Prop) (w21 : World) (s19 : SV) (w20 : World) (a0 : Option Addr) (a1 : Int) (post : (Int × Int) → World → Prop) : Prop :=
 (S10 w21 ∧
 (appendR s19 (⟨(some (⟨w20.heap.size, 0, none⟩ : Addr)), 1, 1⟩) 1 8 [.int .i64 0] 3 w21 fun (s22 : SV) w23 =>
 (S10 w23 ∧
 (onP a0 fun p24 =>
 ((((∃ u, w23.cell? (p24.add 1) = some u) ∧ w23.frozen? (p24.add 1) = false)) ∧ (true = true) ∧
 (withW (w23.setCell (p24.add 1) (.slice s22.a s22.n s22.c)) fun w25 =>
 (withW (w25.alloc (.cells #[] 3)) fun w26 =>
 (onP a0 fun p27 =>
 (∃ s28 : SV, (w26.cell? (p27.add 2) = some (.slice s28.a s28.n s28.c)) ∧
 (appendR (⟨(some (⟨w25.heap.size, 0, none⟩ : Addr)), 0, 0⟩) s28 1 8 [.int .i64 0] 3 w26 fun (s29 : SV) w30 =>
 (withW (w30.alloc (.cells #[.int .i64 a1] 3)) fun w31 =>
 (appendR s29 (⟨(some (⟨w30.heap.size, 0, none⟩ : Addr)), 1, 1⟩) 1 8 [.int .i64 0] 3 w31 fun (s32 : SV) w33 =>
 (onP a0 fun p34 =>
 ((((∃ u, w33.cell? (p34.add 2) = some u) ∧ w33.frozen? (p34.add 2) = false)) ∧ (true = true) ∧
 (withW (w33.setCell (p34.add 2) (.slice s32.a s32.n s32.c)) fun w35 =>
 (onP a0 fun p36 =>
 (∃ n37 : Int, (w35.cell? (p36.add 3) = some (.int .i64 n37)) ∧ post (n37, 0) w35)))))))))))))))))
def f_scarpref11_Book_Open_p1 (S10 : World → Prop) (w38 : World) (w11 : World) (s13 : SV) (w18 : World) (a0 : Option Addr) (a1 : Int) (post : (Int × Int) → World → Prop) : Prop :=
 (S10 w38 ∧
 (appendR (⟨(some (⟨w11.heap.size, 0, none⟩ : Addr)), 0, 0⟩) s13 1 8 [.int .i64 0] 3 w38 fun (s39 : SV) w40 =>
 (f_scarpref11_Book_Open_p2 S10 w40 s39 w18 a0 a1 post)))
def f_scarpref11_Book_Open (a0 : Option Addr) (a1 : Int) (w : World) (post : (Int × Int) → World → Prop) : Prop :=
 (bsplit (decide ((a1 : Int) < 0))
 (post (0, 1) w)
 ((bsplit (decide ((1099511627776 : Int) < a1))
 (post (0, 1) w)
 ((withW w.drew fun w1 =>
 (onP a0 fun p2 =>
 (∃ s3 : SV, (w1.cell? (p2.add 1) = some (.slice s3.a s3.n s3.c)) ∧
 (onP a0 fun p4 =>
 (∃ n5 : Int, (w1.cell? p4 = some (.int .i64 n5)) ∧
 (bsplit (decide ((n5 : Int) ≤ ((s3.n : Nat) : Int)))
 (post (0, 6) w1)
 ((onP a0 fun p6 =>
 (∃ n7 : Int, (w1.cell? (p6.add 3) = some (.int .i64 n7)) ∧
 (onP a0 fun p8 =>
 ((((∃ u, w1.cell? (p8.add 3) = some u) ∧ w1.frozen? (p8.add 3) = false)) ∧ (true = true) ∧
 (withW (w1.setCell (p8.add 3) (.int .i64 (IntKind.i64.wrap (n7 + 1)))) fun w9 =>
 (withW w9.drew fun w11 =>
 (∃ S10 : World → Prop, S10 w11 ∧
 (onP a0 fun p12 =>
 (∃ s13 : SV, ((∀ w14, S10 w14 → w14.cell? (p12.add 1) = some (.slice s13.a s13.n s13.c))) ∧
 (onP a0 fun p15 =>
 (∃ n16 : Int, ((∀ w17, S10 w17 → w17.cell? (p15.add 3) = some (.int .i64 n16))) ∧ ((withW (w11.alloc (.cells #[] 3)) fun w18 =>
 (S10 w18 ∧ ((appendR (⟨(some (⟨w11.heap.size, 0, none⟩ : Addr)), 0, 0⟩) s13 1 8 [.int .i64 0] 3 w18 fun (s19 : SV) w20 =>
 (S10 w20 ∧
 (withW (w20.alloc (.cells #[.int .i64 n16] 3)) fun w21 =>
 (f_scarpref11_Book_Open_p2 S10 w21 s19 w20 a0 a1 post)))) ∧
 (withW (w18.alloc (.cells #[.int .i64 n16] 3)) fun w38 =>
 (f_scarpref11_Book_Open_p1 S10 w38 w11 s13 w18 a0 a1 post))))) ∧
 (withW (w11.alloc (.cells #[.int .i64 n16] 3)) fun w57 =>
 (S10 w57 ∧
 (withW (w57.alloc (.cells #[] 3)) fun w58 =>
 (f_scarpref11_Book_Open_p1 S10 w58 w57 s13 w11 a0 a1 post)))))))))))))))))))))))))))
theorem scarpref11_Book_Open_go {w : World} {a0 : Option Addr} {a1 : Int} {post : RT [.cell (.int .i64), .cell (.int .i64)] → World → Prop} (h : f_scarpref11_Book_Open a0 a1 w post) : c_scarpref11_Book_Open a0 a1 w post :=
 calls_of_vc tab_ok Tryz.func117 (by kernel_rfl) (Eq.mpr (by kernel_rfl) h)
/-- scarp/scarpref11.NewBuf -/
def f_scarpref11_NewBuf (a0 : Int) (a1 : Int) (w : World) (post : ((Option Addr) × Int) → World → Prop) : Prop :=
 (bsplit (decide ((a0 : Int) < 1))
 (post (none, 1) w)
 ((bsplit (decide ((1048576 : Int) < a0))
 (post (none, 1) w)
 ((bsplit (decide ((a1 : Int) < 0))
 (post (none, 1) w)
 ((withW (w.alloc (.cells #[.int .i64 a0, .int .i64 a1, .slice none 0 0] 159)) fun w1 =>
 post ((some (⟨w.heap.size, 0, none⟩ : Addr)), 0) w1)))))))
theorem scarpref11_NewBuf_go {w : World} {a0 : Int} {a1 : Int} {post : RT [.cell (.ptr), .cell (.int .i64)] → World → Prop} (h : f_scarpref11_NewBuf a0 a1 w post) : c_scarpref11_NewBuf a0 a1 w post :=
 calls_of_vc tab_ok Tryz.func118 (by kernel_rfl) (Eq.mpr (by kernel_rfl) h)
/-- scarp/scarpref11.NewView -/
def f_scarpref11_NewView (a0 : Option Addr) (a1 : Option Addr) (a2 : Int) (w : World) (post : ((Option Addr)) → World → Prop) : Prop :=
 (withW (w.alloc (.cells #[.pointer a0, .pointer a1, .int .i64 a2, .int .i64 64, .slice none 0 0, .slice none 0 0] 157)) fun w1 =>
 post ((some (⟨w.heap.size, 0, none⟩ : Addr))) w1)
theorem scarpref11_NewView_go {w : World} {a0 : Option Addr} {a1 : Option Addr} {a2 : Int} {post : RT [.cell (.ptr)] → World → Prop} (h : f_scarpref11_NewView a0 a1 a2 w post) : c_scarpref11_NewView a0 a1 a2 w post :=
 calls_of_vc tab_ok Tryz.func119 (by kernel_rfl) (Eq.mpr (by kernel_rfl) h)
/-- (*scarp/scarpref23.Manager).open -/
def f_scarpref23_Manager_open (a0 : Option Addr) (a1 : Int) (w : World) (post : ((Option Addr)) → World → Prop) : Prop :=
 (bsplit (decide ((a1 : Int) < 1))
 (post (none) w)
 ((onP a0 fun p1 =>
 (∃ s2 : SV, (w.cell? (p1.add 5) = some (.slice s2.a s2.n s2.c)) ∧
 (bsplit (decide ((((s2.n : Nat) : Int) : Int) < a1))
 (post (none) w)
 ((onP a0 fun p3 =>
 (∃ s4 : SV, (w.cell? (p3.add 5) = some (.slice s4.a s4.n s4.c)) ∧ (0 ≤ ((IntKind.i64.wrap (a1 - 1)) : Int) ∧ ((IntKind.i64.wrap (a1 - 1)) : Int) < ((s4.n : Nat) : Int) ∧
 (onP s4.a fun p5 =>
 (∃ q6 : Option Addr, (w.cell? (p5.add (((IntKind.i64.wrap (a1 - 1)) : Int).toNat * 1)) = some (.pointer q6)) ∧
 (onP q6 fun p7 =>
 (∃ n8 : Int, (w.cell? p7 = some (.int .i64 n8)) ∧
 (bsplit (!decide ((n8 : Int) = 1))
 (post (none) w)
 ((onP a0 fun p9 =>
 (∃ s10 : SV, (w.cell? (p9.add 5) = some (.slice s10.a s10.n s10.c)) ∧ (0 ≤ ((IntKind.i64.wrap (a1 - 1)) : Int) ∧ ((IntKind.i64.wrap (a1 - 1)) : Int) < ((s10.n : Nat) : Int) ∧
 (onP s10.a fun p11 =>
 (∃ q12 : Option Addr, (w.cell? (p11.add (((IntKind.i64.wrap (a1 - 1)) : Int).toNat * 1)) = some (.pointer q12)) ∧ post (q12) w))))))))))))))))))))
theorem scarpref23_Manager_open_go {w : World} {a0 : Option Addr} {a1 : Int} {post : RT [.cell (.ptr)] → World → Prop} (h : f_scarpref23_Manager_open a0 a1 w post) : c_scarpref23_Manager_open a0 a1 w post :=
 calls_of_vc tab_ok Tryz.func120 (by kernel_rfl) (Eq.mpr (by kernel_rfl) h)
/-- (*scarp/scarpref11.View).Read; loop over (t6 : SV, t7 : Int) -/
def f_scarpref11_View_Read (a0 : Option Addr) (a1c0 : Int) (a1c1 : Int) (w : World) (post : (SV × Int) → World → Prop) : Prop :=
 (withW (w.alloc (.cells #[.int .i64 a1c0, .int .i64 a1c1] 56)) fun w1 =>
 (∃ n2 : Int, (w1.cell? ((⟨w.heap.size, 0, none⟩ : Addr).add 1) = some (.int .i64 n2)) ∧
 (bsplit (decide ((n2 : Int) < 1))
 (post (⟨none, 0, 0⟩, 3) w1)
 ((∃ n3 : Int, (w1.cell? ((⟨w.heap.size, 0, none⟩ : Addr).add 1) = some (.int .i64 n3)) ∧
 (bsplit (decide ((16 : Int) < n3))
 (post (⟨none, 0, 0⟩, 3) w1)
 ((withW w1.drew fun w5 =>
 (∃ S4 : World → Prop, S4 w5 ∧
 (onP a0 fun p6 =>
 (∃ q7 : Option Addr, ((∀ w8, S4 w8 → w8.cell? p6 = some (.pointer q7))) ∧
 (∃ g9 : Int × Int, ((∀ w10, S4 w10 → w10.cell? (⟨w.heap.size, 0, none⟩ : Addr) = some (.int .i64 g9.1) ∧ w10.cell? ((⟨w.heap.size, 0, none⟩ : Addr).add 1) = some (.int .i64 g9.2))) ∧
 (c_scarpref11_Map_in q7 g9.1 g9.2 w5 fun (x11 : Bool) w12 =>
 (S4 w12 ∧
 (bsplit (!x11)
 (post (⟨none, 0, 0⟩, 2) w12)
 ((withW w12.drew fun w14 =>
 (∃ S13 : World → Prop, S13 w14 ∧
 (onP a0 fun p15 =>
 (∃ g16 : Int × Int, ((∀ w17, S13 w17 → w17.cell? (⟨w.heap.size, 0, none⟩ : Addr) = some (.int .i64 g16.1) ∧ w17.cell? ((⟨w.heap.size, 0, none⟩ : Addr).add 1) = some (.int .i64 g16.2))) ∧
 (withW (w14.alloc (.cells #[.int .i64 g16.1, .int .i64 g16.2] 56)) fun w18 =>
 (S13 w18 ∧
 (c_scarpref11_Set_Add (some (p15.add 3)) (⟨(some (⟨w14.heap.size, 0, none⟩ : Addr)), 1, 1⟩) w18 fun (x19 : Int) w20 =>
 (S13 w20 ∧
 (bsplit (!decide ((x19 : Int) = 0))
 (post (⟨none, 0, 0⟩, 7) w20)
 ((loopR (α := SV × Int) (⟨none, 0, 0⟩, 0) w20 fun x21 w22 next23 =>
 (∃ n24 : Int, (w22.cell? ((⟨w.heap.size, 0, none⟩ : Addr).add 1) = some (.int .i64 n24)) ∧
 (bsplit (decide ((x21.2 : Int) < n24))
 ((withW w22.drew fun w26 =>
 (∃ S25 : World → Prop, S25 w26 ∧
 (onP a0 fun p27 =>
 (∃ q28 : Option Addr, ((∀ w29, S25 w29 → w29.cell? (p27.add 1) = some (.pointer q28))) ∧
 (∃ n30 : Int, ((∀ w31, S25 w31 → w31.cell? (⟨w.heap.size, 0, none⟩ : Addr) = some (.int .i64 n30))) ∧
 (c_scarpref11_Buf_Get q28 (IntKind.i64.wrap (n30 + x21.2)) w26 fun (x32 : SV × Bool) w33 =>
 (S25 w33 ∧
 (bsplit (!x32.2)
 ((withW w33.drew fun w35 =>
 (∃ S34 : World → Prop, S34 w35 ∧
 (onP a0 fun p36 =>
 (∃ q37 : Option Addr, ((∀ w38, S34 w38 → w38.cell? p36 = some (.pointer q37))) ∧
 (∃ n39 : Int, ((∀ w40, S34 w40 → w40.cell? (⟨w.heap.size, 0, none⟩ : Addr) = some (.int .i64 n39))) ∧
 (onP a0 fun p41 =>
 (∃ n42 : Int, ((∀ w43, S34 w43 → w43.cell? (p41.add 2) = some (.int .i64 n42))) ∧
 (c_scarpref11_Map_Get q37 (IntKind.i64.wrap (n39 + x21.2)) n42 w35 fun (x44 : SV × Int) w45 =>
 (S34 w45 ∧
 (withW w45.drew fun w47 =>
 (∃ S46 : World → Prop, S46 w47 ∧
 (onP a0 fun p48 =>
 (∃ s49 : SV, ((∀ w50, S46 w50 → w50.cell? (p48.add 5) = some (.slice s49.a s49.n s49.c))) ∧
 (∃ n51 : Int, ((∀ w52, S46 w52 → w52.cell? (⟨w.heap.size, 0, none⟩ : Addr) = some (.int .i64 n51))) ∧
 (withW (w47.alloc (.cells #[] 5)) fun w53 =>
 (S46 w53 ∧
 (appendR (⟨(some (⟨w47.heap.size, 0, none⟩ : Addr)), 0, 0⟩) x44.1 1 1 [.int .u8 0] 5 w53 fun (s54 : SV) w55 =>
 (S46 w55 ∧
 (withW (w55.alloc (.cells #[.int .i64 (IntKind.i64.wrap (n51 + x21.2)), .slice s54.a s54.n s54.c, .bool x32.2] 76)) fun w56 =>
 (S46 w56 ∧
 (appendR s49 (⟨(some (⟨w55.heap.size, 0, none⟩ : Addr)), 1, 1⟩) 3 40 [.int .i64 0, .slice none 0 0, .bool false] 76 w56 fun (s57 : SV) w58 =>
 (S46 w58 ∧
 (onP a0 fun p59 =>
 ((((∃ u, w58.cell? (p59.add 5) = some u) ∧ w58.frozen? (p59.add 5) = false)) ∧ (true = true) ∧
 (withW (w58.setCell (p59.add 5) (.slice s57.a s57.n s57.c)) fun w60 =>
 (appendR x21.1 x44.1 1 1 [.int .u8 0] 5 w60 fun (s61 : SV) w62 =>
 next23 (⟨s61.a, s61.n, s61.c⟩, (IntKind.i64.wrap (x21.2 + 1))) w62)))))))))))))))))))))))))))
 ((withW w33.drew fun w64 =>
 (∃ S63 : World → Prop, S63 w64 ∧
 (onP a0 fun p65 =>
 (∃ s66 : SV, ((∀ w67, S63 w67 → w67.cell? (p65.add 5) = some (.slice s66.a s66.n s66.c))) ∧
 (∃ n68 : Int, ((∀ w69, S63 w69 → w69.cell? (⟨w.heap.size, 0, none⟩ : Addr) = some (.int .i64 n68))) ∧
 (withW (w64.alloc (.cells #[] 5)) fun w70 =>
 (S63 w70 ∧
 (appendR (⟨(some (⟨w64.heap.size, 0, none⟩ : Addr)), 0, 0⟩) x32.1 1 1 [.int .u8 0] 5 w70 fun (s71 : SV) w72 =>
 (S63 w72 ∧
 (withW (w72.alloc (.cells #[.int .i64 (IntKind.i64.wrap (n68 + x21.2)), .slice s71.a s71.n s71.c, .bool x32.2] 76)) fun w73 =>
 (S63 w73 ∧
 (appendR s66 (⟨(some (⟨w72.heap.size, 0, none⟩ : Addr)), 1, 1⟩) 3 40 [.int .i64 0, .slice none 0 0, .bool false] 76 w73 fun (s74 : SV) w75 =>
 (S63 w75 ∧
 (onP a0 fun p76 =>
 ((((∃ u, w75.cell? (p76.add 5) = some u) ∧ w75.frozen? (p76.add 5) = false)) ∧ (true = true) ∧
 (withW (w75.setCell (p76.add 5) (.slice s74.a s74.n s74.c)) fun w77 =>
 (appendR x21.1 x32.1 1 1 [.int .u8 0] 5 w77 fun (s78 : SV) w79 =>
 next23 (⟨s78.a, s78.n, s78.c⟩, (IntKind.i64.wrap (x21.2 + 1))) w79)))))))))))))))))))))))))))
 (post (⟨x21.1.a, x21.1.n, x21.1.c⟩, 0) w22))))))))))))))))))))))))))))))
theorem scarpref11_View_Read_go {w : World} {a0 : Option Addr} {a1c0 : Int} {a1c1 : Int} {post : RT [.cell (.slice), .cell (.int .i64)] → World → Prop} (h : f_scarpref11_View_Read a0 a1c0 a1c1 w post) : c_scarpref11_View_Read a0 a1c0 a1c1 w post :=
 calls_of_vc tab_ok Tryz.func121 (by kernel_rfl) (Eq.mpr (by kernel_rfl) h)
/-- (*scarp/scarpref11.Buf).Write; loop over (t4 : Int, t5 : Int); loop over (t4 : Int, t6 : Int); loop over (t4 : Int, t7 : Int, t8 : Int); loop over (t4 : Int, t9 : Int); loop over (t12 : Int); loop over (t14 : SV, t15 : Bool, t16 : Int); loop over (t14 : SV, t15 : Bool, t16 : Int); loop over (t14 : SV, t15 : Bool, t16 : Int) -/
def f_scarpref11_Buf_Write_p3 (w60 : World) (a0 : Option Addr) (x55 : SV × Bool × Int) (w52 : World) (next57 : (SV × Bool × Int) → World → Prop) : Prop :=
 ((withW w60.drew fun w85 =>
 (onP a0 fun p86 =>
 (∃ s87 : SV, (w85.cell? (p86.add 2) = some (.slice s87.a s87.n s87.c)) ∧ (0 ≤ (x55.2.2 : Int) ∧ (x55.2.2 : Int) < ((s87.n : Nat) : Int) ∧
 (onP s87.a fun p88 =>
 (∃ n89 : Int, (w85.cell? (p88.add ((x55.2.2 : Int).toNat * 2)) = some (.int .i64 n89)) ∧
 (∃ n90 : Int, (w85.cell? (⟨w52.heap.size, 0, none⟩ : Addr) = some (.int .i64 n90)) ∧
 (bsplit (!decide ((n89 : Int) = n90))
 ((onP a0 fun p91 =>
 (∃ s92 : SV, (w85.cell? (p91.add 2) = some (.slice s92.a s92.n s92.c)) ∧ (0 ≤ (x55.2.2 : Int) ∧ (x55.2.2 : Int) < ((s92.n : Nat) : Int) ∧
 (onP s92.a fun p93 =>
 (∃ g94 : Int × SV, (w85.cell? (p93.add ((x55.2.2 : Int).toNat * 2)) = some (.int .i64 g94.1) ∧ w85.cell? ((p93.add ((x55.2.2 : Int).toNat * 2)).add 1) = some (.slice g94.2.a g94.2.n g94.2.c)) ∧
 (withW (w85.alloc (.cells #[.int .i64 g94.1, .slice g94.2.a g94.2.n g94.2.c] 33)) fun w95 =>
 (appendR x55.1 (⟨(some (⟨w85.heap.size, 0, none⟩ : Addr)), 1, 1⟩) 2 32 [.int .i64 0, .slice none 0 0] 33 w95 fun (s96 : SV) w97 =>
 (withI (IntKind.i64.wrap (x55.2.2 + 1)) fun i98 =>
 next57 (⟨s96.a, s96.n, s96.c⟩, x55.2.1, i98) w97)))))))))
 ((withI (IntKind.i64.wrap (x55.2.2 + 1)) fun i99 =>
 next57 (⟨x55.1.a, x55.1.n, x55.1.c⟩, x55.2.1, i99) w85)))))))))))
def f_scarpref11_Buf_Write_p2 (S42 : World → Prop) (w53 : World) (w52 : World) (n45 : Int) (s51 : SV) (a0 : Option Addr) (next41 : Int → World → Prop) (x39 : Int) : Prop :=
 (S42 w53 ∧ ((((∃ u, w53.cell? (⟨w52.heap.size, 0, none⟩ : Addr) = some u) ∧ w53.frozen? (⟨w52.heap.size, 0, none⟩ : Addr) = false) ∧ ((∃ u, w53.cell? ((⟨w52.heap.size, 0, none⟩ : Addr).add 1) = some u) ∧ w53.frozen? ((⟨w52.heap.size, 0, none⟩ : Addr).add 1) = false)) ∧ (true = true) ∧
 (withW ((w53.setCell (⟨w52.heap.size, 0, none⟩ : Addr) (.int .i64 n45)).setCell ((⟨w52.heap.size, 0, none⟩ : Addr).add 1) (.slice s51.a s51.n s51.c)) fun w54 =>
 (loopR (α := SV × Bool × Int) (⟨none, 0, 0⟩, false, 0) w54 fun x55 w56 next57 =>
 (onP a0 fun p58 =>
 (∃ s59 : SV, (w56.cell? (p58.add 2) = some (.slice s59.a s59.n s59.c)) ∧
 (bsplit (decide ((x55.2.2 : Int) < ((s59.n : Nat) : Int)))
 ((withW w56.drew fun w60 =>
 (bsplit (!x55.2.1)
 ((onP a0 fun p61 =>
 (∃ s62 : SV, (w60.cell? (p61.add 2) = some (.slice s62.a s62.n s62.c)) ∧ (0 ≤ (x55.2.2 : Int) ∧ (x55.2.2 : Int) < ((s62.n : Nat) : Int) ∧
 (onP s62.a fun p63 =>
 (∃ n64 : Int, (w60.cell? (p63.add ((x55.2.2 : Int).toNat * 2)) = some (.int .i64 n64)) ∧
 (∃ n65 : Int, (w60.cell? (⟨w52.heap.size, 0, none⟩ : Addr) = some (.int .i64 n65)) ∧
 (bsplit (decide ((n65 : Int) ≤ n64))
 ((∃ g66 : Int × SV, (w60.cell? (⟨w52.heap.size, 0, none⟩ : Addr) = some (.int .i64 g66.1) ∧ w60.cell? ((⟨w52.heap.size, 0, none⟩ : Addr).add 1) = some (.slice g66.2.a g66.2.n g66.2.c)) ∧
 (withW (w60.alloc (.cells #[.int .i64 g66.1, .slice g66.2.a g66.2.n g66.2.c] 33)) fun w67 =>
 (appendR x55.1 (⟨(some (⟨w60.heap.size, 0, none⟩ : Addr)), 1, 1⟩) 2 32 [.int .i64 0, .slice none 0 0] 33 w67 fun (s68 : SV) w69 =>
 (withW w69.drew fun w70 =>
 (onP a0 fun p71 =>
 (∃ s72 : SV, (w70.cell? (p71.add 2) = some (.slice s72.a s72.n s72.c)) ∧ (0 ≤ (x55.2.2 : Int) ∧ (x55.2.2 : Int) < ((s72.n : Nat) : Int) ∧
 (onP s72.a fun p73 =>
 (∃ n74 : Int, (w70.cell? (p73.add ((x55.2.2 : Int).toNat * 2)) = some (.int .i64 n74)) ∧
 (∃ n75 : Int, (w70.cell? (⟨w52.heap.size, 0, none⟩ : Addr) = some (.int .i64 n75)) ∧
 (bsplit (!decide ((n74 : Int) = n75))
 ((onP a0 fun p76 =>
 (∃ s77 : SV, (w70.cell? (p76.add 2) = some (.slice s77.a s77.n s77.c)) ∧ (0 ≤ (x55.2.2 : Int) ∧ (x55.2.2 : Int) < ((s77.n : Nat) : Int) ∧
 (onP s77.a fun p78 =>
 (∃ g79 : Int × SV, (w70.cell? (p78.add ((x55.2.2 : Int).toNat * 2)) = some (.int .i64 g79.1) ∧ w70.cell? ((p78.add ((x55.2.2 : Int).toNat * 2)).add 1) = some (.slice g79.2.a g79.2.n g79.2.c)) ∧
 (withW (w70.alloc (.cells #[.int .i64 g79.1, .slice g79.2.a g79.2.n g79.2.c] 33)) fun w80 =>
 (appendR s68 (⟨(some (⟨w70.heap.size, 0, none⟩ : Addr)), 1, 1⟩) 2 32 [.int .i64 0, .slice none 0 0] 33 w80 fun (s81 : SV) w82 =>
 (withI (IntKind.i64.wrap (x55.2.2 + 1)) fun i83 =>
 next57 (⟨s81.a, s81.n, s81.c⟩, true, i83) w82)))))))))
 ((withI (IntKind.i64.wrap (x55.2.2 + 1)) fun i84 =>
 next57 (⟨s68.a, s68.n, s68.c⟩, true, i84) w70)))))))))))))) (f_scarpref11_Buf_Write_p3 w60 a0 x55 w52 next57))))))))) (f_scarpref11_Buf_Write_p3 w60 a0 x55 w52 next57))))
 ((bsplit (!x55.2.1)
 ((∃ g115 : Int × SV, (w56.cell? (⟨w52.heap.size, 0, none⟩ : Addr) = some (.int .i64 g115.1) ∧ w56.cell? ((⟨w52.heap.size, 0, none⟩ : Addr).add 1) = some (.slice g115.2.a g115.2.n g115.2.c)) ∧
 (withW (w56.alloc (.cells #[.int .i64 g115.1, .slice g115.2.a g115.2.n g115.2.c] 33)) fun w116 =>
 (appendR x55.1 (⟨(some (⟨w56.heap.size, 0, none⟩ : Addr)), 1, 1⟩) 2 32 [.int .i64 0, .slice none 0 0] 33 w116 fun (s117 : SV) w118 =>
 (onP a0 fun p119 =>
 ((((∃ u, w118.cell? (p119.add 2) = some u) ∧ w118.frozen? (p119.add 2) = false)) ∧ (true = true) ∧
 (withW (w118.setCell (p119.add 2) (.slice s117.a s117.n s117.c)) fun w120 =>
 next41 ((IntKind.i64.wrap (x39 + 1))) w120)))))))
 ((onP a0 fun p121 =>
 ((((∃ u, w56.cell? (p121.add 2) = some u) ∧ w56.frozen? (p121.add 2) = false)) ∧ (true = true) ∧
 (withW (w56.setCell (p121.add 2) (.slice x55.1.a x55.1.n x55.1.c)) fun w122 =>
 next41 ((IntKind.i64.wrap (x39 + 1))) w122)))))))))))))
def f_scarpref11_Buf_Write_p1 (S42 : World → Prop) (w123 : World) (w43 : World) (s48 : SV) (w50 : World) (n45 : Int) (a0 : Option Addr) (next41 : Int → World → Prop) (x39 : Int) : Prop :=
 (S42 w123 ∧
 (appendR (⟨(some (⟨w43.heap.size, 0, none⟩ : Addr)), 0, 0⟩) s48 1 1 [.int .u8 0] 5 w123 fun (s124 : SV) w125 =>
 (f_scarpref11_Buf_Write_p2 S42 w125 w50 n45 s124 a0 next41 x39)))
def f_scarpref11_Buf_Write (a0 : Option Addr) (a1 : SV) (w : World) (post : Int → World → Prop) : Prop :=
 (bsplit (decide ((((a1.n : Nat) : Int) : Int) = 0))
 (post (1) w)
 ((loopR (α := Int × Int) (0, 0) w fun x1 w2 next3 =>
 (bsplit (decide ((x1.2 : Int) < ((a1.n : Nat) : Int)))
 ((withW w2.drew fun w4 =>
 (0 ≤ (x1.2 : Int) ∧ (x1.2 : Int) < ((a1.n : Nat) : Int) ∧
 (onP a1.a fun p5 =>
 (∃ n6 : Int, (w4.cell? (p5.add ((x1.2 : Int).toNat * 2)) = some (.int .i64 n6)) ∧
 (bsplit (decide ((n6 : Int) < 0))
 (post (2) w4)
 ((0 ≤ (x1.2 : Int) ∧ (x1.2 : Int) < ((a1.n : Nat) : Int) ∧
 (onP a1.a fun p7 =>
 (∃ n8 : Int, (w4.cell? (p7.add ((x1.2 : Int).toNat * 2)) = some (.int .i64 n8)) ∧
 (onP a0 fun p9 =>
 (∃ n10 : Int, (w4.cell? p9 = some (.int .i64 n10)) ∧
 (bsplit (decide ((n10 : Int) ≤ n8))
 (post (2) w4)
 (next3 (x1.1, (IntKind.i64.wrap (x1.2 + 1))) w4))))))))))))))
 ((loopR (α := Int × Int) (x1.1, 0) w2 fun x11 w12 next13 =>
 (bsplit (decide ((x11.2 : Int) < ((a1.n : Nat) : Int)))
 ((0 ≤ (x11.2 : Int) ∧ (x11.2 : Int) < ((a1.n : Nat) : Int) ∧
 (onP a1.a fun p14 =>
 (∃ s15 : SV, (w12.cell? ((p14.add ((x11.2 : Int).toNat * 2)).add 1) = some (.slice s15.a s15.n s15.c)) ∧
 (bsplit (!decide ((((s15.n : Nat) : Int) : Int) = 40))
 (post (3) w12)
 (next13 (x11.1, (IntKind.i64.wrap (x11.2 + 1))) w12))))))
 ((loopR (α := Int × Int × Int) (x11.1, 0, 0) w12 fun x16 w17 next18 =>
 (bsplit (decide ((x16.2.2 : Int) < ((a1.n : Nat) : Int)))
 ((loopR (α := Int × Int) (x16.1, 0) w17 fun x19 w20 next21 =>
 (bsplit (decide ((x19.2 : Int) < x16.2.2))
 ((withW w20.drew fun w22 =>
 (0 ≤ (x19.2 : Int) ∧ (x19.2 : Int) < ((a1.n : Nat) : Int) ∧
 (onP a1.a fun p23 =>
 (∃ n24 : Int, (w22.cell? (p23.add ((x19.2 : Int).toNat * 2)) = some (.int .i64 n24)) ∧ (0 ≤ (x16.2.2 : Int) ∧ (x16.2.2 : Int) < ((a1.n : Nat) : Int) ∧
 (onP a1.a fun p25 =>
 (∃ n26 : Int, (w22.cell? (p25.add ((x16.2.2 : Int).toNat * 2)) = some (.int .i64 n26)) ∧
 (bsplit (decide ((n24 : Int) = n26))
 (post (4) w22)
 (next21 (x19.1, (IntKind.i64.wrap (x19.2 + 1))) w22))))))))))
 ((0 ≤ (x16.2.2 : Int) ∧ (x16.2.2 : Int) < ((a1.n : Nat) : Int) ∧
 (onP a1.a fun p27 =>
 (∃ n28 : Int, (w20.cell? (p27.add ((x16.2.2 : Int).toNat * 2)) = some (.int .i64 n28)) ∧
 (c_scarpref11_Buf_Get a0 n28 w20 fun (x29 : SV × Bool) w30 =>
 (bsplit (!x29.2)
 ((withI (IntKind.i64.wrap (x16.2.1 + 1)) fun i31 =>
 (withI (IntKind.i64.wrap (x16.2.2 + 1)) fun i32 =>
 next18 (x19.1, i31, i32) w30)))
 ((withI (IntKind.i64.wrap (x16.2.2 + 1)) fun i33 =>
 next18 (x19.1, x16.2.1, i33) w30)))))))))))
 ((withW w17.drew fun w34 =>
 (onP a0 fun p35 =>
 (∃ s36 : SV, (w34.cell? (p35.add 2) = some (.slice s36.a s36.n s36.c)) ∧
 (onP a0 fun p37 =>
 (∃ n38 : Int, (w34.cell? (p37.add 1) = some (.int .i64 n38)) ∧
 (bsplit (decide ((n38 : Int) < (IntKind.i64.wrap (((s36.n : Nat) : Int) + x16.2.1))))
 (post (7) w34)
 ((loopR (α := Int) (0) w34 fun x39 w40 next41 =>
 (bsplit (decide ((x39 : Int) < ((a1.n : Nat) : Int)))
 ((withW w40.drew fun w43 =>
 (∃ S42 : World → Prop, S42 w43 ∧ (0 ≤ (x39 : Int) ∧ (x39 : Int) < ((a1.n : Nat) : Int) ∧
 (onP a1.a fun p44 =>
 (∃ n45 : Int, ((∀ w46, S42 w46 → w46.cell? (p44.add ((x39 : Int).toNat * 2)) = some (.int .i64 n45))) ∧ (0 ≤ (x39 : Int) ∧ (x39 : Int) < ((a1.n : Nat) : Int) ∧
 (onP a1.a fun p47 =>
 (∃ s48 : SV, ((∀ w49, S42 w49 → w49.cell? ((p47.add ((x39 : Int).toNat * 2)).add 1) = some (.slice s48.a s48.n s48.c))) ∧ ((withW (w43.alloc (.cells #[] 5)) fun w50 =>
 (S42 w50 ∧ ((appendR (⟨(some (⟨w43.heap.size, 0, none⟩ : Addr)), 0, 0⟩) s48 1 1 [.int .u8 0] 5 w50 fun (s51 : SV) w52 =>
 (S42 w52 ∧
 (withW (w52.alloc (.cells #[.int .i64 0, .slice none 0 0] 33)) fun w53 =>
 (f_scarpref11_Buf_Write_p2 S42 w53 w52 n45 s51 a0 next41 x39)))) ∧
 (withW (w50.alloc (.cells #[.int .i64 0, .slice none 0 0] 33)) fun w123 =>
 (f_scarpref11_Buf_Write_p1 S42 w123 w43 s48 w50 n45 a0 next41 x39))))) ∧
 (withW (w43.alloc (.cells #[.int .i64 0, .slice none 0 0] 33)) fun w195 =>
 (S42 w195 ∧
 (withW (w195.alloc (.cells #[] 5)) fun w196 =>
 (f_scarpref11_Buf_Write_p1 S42 w196 w195 s48 w43 n45 a0 next41 x39))))))))))))))
 (post (0) w40)))))))))))))))))))))
theorem scarpref11_Buf_Write_go {w : World} {a0 : Option Addr} {a1 : SV} {post : RT [.cell (.int .i64)] → World → Prop} (h : f_scarpref11_Buf_Write a0 a1 w post) : c_scarpref11_Buf_Write a0 a1 w post :=
 calls_of_vc tab_ok Tryz.func122 (by kernel_rfl) (Eq.mpr (by kernel_rfl) h)
/-- (*scarp/scarpref23.Manager).end -/
def f_scarpref23_Manager_end (a0 : Option Addr) (a1 : Int) (a2 : Int) (a3 : Int) (a4 : Int) (w : World) (post : Unit → World → Prop) : Prop :=
 (onP a0 fun p1 =>
 (∃ s2 : SV, (w.cell? (p1.add 5) = some (.slice s2.a s2.n s2.c)) ∧ (0 ≤ ((IntKind.i64.wrap (a1 - 1)) : Int) ∧ ((IntKind.i64.wrap (a1 - 1)) : Int) < ((s2.n : Nat) : Int) ∧
 (onP s2.a fun p3 =>
 (∃ q4 : Option Addr, (w.cell? (p3.add (((IntKind.i64.wrap (a1 - 1)) : Int).toNat * 1)) = some (.pointer q4)) ∧
 (onP q4 fun p5 =>
 ((((∃ u, w.cell? p5 = some u) ∧ w.frozen? p5 = false)) ∧ (true = true) ∧
 (withW (w.setCell p5 (.int .i64 a2)) fun w6 =>
 (onP q4 fun p7 =>
 ((((∃ u, w6.cell? (p7.add 1) = some u) ∧ w6.frozen? (p7.add 1) = false)) ∧ (true = true) ∧
 (withW (w6.setCell (p7.add 1) (.int .i64 a3)) fun w8 =>
 (onP q4 fun p9 =>
 ((((∃ u, w8.cell? (p9.add 2) = some u) ∧ w8.frozen? (p9.add 2) = false)) ∧ (true = true) ∧
 (withW (w8.setCell (p9.add 2) (.int .i64 a4)) fun w10 =>
 (onP a0 fun p11 =>
 (c_scarpref11_Book_Close (some (p11.add 1)) a1 w10 fun (x12 : Int) w13 =>
 post () w13))))))))))))))))
theorem scarpref23_Manager_end_go {w : World} {a0 : Option Addr} {a1 : Int} {a2 : Int} {a3 : Int} {a4 : Int} {post : RT [] → World → Prop} (h : f_scarpref23_Manager_end a0 a1 a2 a3 a4 w post) : c_scarpref23_Manager_end a0 a1 a2 a3 a4 w post :=
 calls_of_vc tab_ok Tryz.func123 (by kernel_rfl) (Eq.mpr (by kernel_rfl) h)
/-- scarp/scarpref11.Valid; loop over (t10 : Int, t11 : Int); loop over (t10 : Int, t12 : Int) -/
def f_scarpref11_Valid (a0 : Option Addr) (a1 : SV) (a2 : Int) (a3 : Option Addr) (a4 : Option Addr) (w : World) (post : Int → World → Prop) : Prop :=
 (onP a4 fun p1 =>
 (∃ s2 : SV, (w.cell? (p1.add 1) = some (.slice s2.a s2.n s2.c)) ∧
 (bsplit (decide ((((s2.n : Nat) : Int) : Int) = 0))
 (post (0) w)
 ((loopR (α := Int × Int) (0, 0) w fun x3 w4 next5 =>
 (onP a0 fun p6 =>
 (∃ s7 : SV, (w4.cell? (p6.add 1) = some (.slice s7.a s7.n s7.c)) ∧
 (bsplit (decide ((x3.2 : Int) < ((s7.n : Nat) : Int)))
 ((onP a0 fun p8 =>
 (∃ s9 : SV, (w4.cell? (p8.add 1) = some (.slice s9.a s9.n s9.c)) ∧ (0 ≤ (x3.2 : Int) ∧ (x3.2 : Int) < ((s9.n : Nat) : Int) ∧
 (onP s9.a fun p10 =>
 (∃ n11 : Int, (w4.cell? ((p10.add ((x3.2 : Int).toNat * 3)).add 1) = some (.int .i64 n11)) ∧
 (bsplit (decide ((a2 : Int) < n11))
 ((onP a0 fun p12 =>
 (∃ s13 : SV, (w4.cell? (p12.add 1) = some (.slice s13.a s13.n s13.c)) ∧ (0 ≤ (x3.2 : Int) ∧ (x3.2 : Int) < ((s13.n : Nat) : Int) ∧
 (onP s13.a fun p14 =>
 (∃ n15 : Int, (w4.cell? (p14.add ((x3.2 : Int).toNat * 3)) = some (.int .i64 n15)) ∧
 (c_scarpref11_Set_Has a3 n15 w4 fun (x16 : Bool) w17 =>
 (bsplit x16 (post (8) w17)
 ((onP a0 fun p18 =>
 (∃ s19 : SV, (w17.cell? (p18.add 1) = some (.slice s19.a s19.n s19.c)) ∧ (0 ≤ (x3.2 : Int) ∧ (x3.2 : Int) < ((s19.n : Nat) : Int) ∧
 (onP s19.a fun p20 =>
 (∃ n21 : Int, (w17.cell? (p20.add ((x3.2 : Int).toNat * 3)) = some (.int .i64 n21)) ∧
 (c_scarpref11_Set_Has a4 n21 w17 fun (x22 : Bool) w23 =>
 (bsplit x22 (post (8) w23)
 (next5 (x3.1, (IntKind.i64.wrap (x3.2 + 1))) w23)))))))))))))))))
 (next5 (x3.1, (IntKind.i64.wrap (x3.2 + 1))) w4))))))))
 ((loopR (α := Int × Int) (x3.1, 0) w4 fun x24 w25 next26 =>
 (bsplit (decide ((x24.2 : Int) < ((a1.n : Nat) : Int)))
 ((0 ≤ (x24.2 : Int) ∧ (x24.2 : Int) < ((a1.n : Nat) : Int) ∧
 (onP a1.a fun p27 =>
 (∃ g28 : Int × SV, (w25.cell? (p27.add ((x24.2 : Int).toNat * 2)) = some (.int .i64 g28.1) ∧ w25.cell? ((p27.add ((x24.2 : Int).toNat * 2)).add 1) = some (.slice g28.2.a g28.2.n g28.2.c)) ∧
 (c_scarpref11_Against g28.1 g28.2 a3 w25 fun (x29 : Bool) w30 =>
 (bsplit x29 (post (8) w30)
 ((0 ≤ (x24.2 : Int) ∧ (x24.2 : Int) < ((a1.n : Nat) : Int) ∧
 (onP a1.a fun p31 =>
 (∃ g32 : Int × SV, (w30.cell? (p31.add ((x24.2 : Int).toNat * 2)) = some (.int .i64 g32.1) ∧ w30.cell? ((p31.add ((x24.2 : Int).toNat * 2)).add 1) = some (.slice g32.2.a g32.2.n g32.2.c)) ∧
 (c_scarpref11_Against g32.1 g32.2 a4 w30 fun (x33 : Bool) w34 =>
 (bsplit x33 (post (8) w34)
 (next26 (x24.1, (IntKind.i64.wrap (x24.2 + 1))) w34)))))))))))))
 (post (0) w25))))))))))))
theorem scarpref11_Valid_go {w : World} {a0 : Option Addr} {a1 : SV} {a2 : Int} {a3 : Option Addr} {a4 : Option Addr} {post : RT [.cell (.int .i64)] → World → Prop} (h : f_scarpref11_Valid a0 a1 a2 a3 a4 w post) : c_scarpref11_Valid a0 a1 a2 a3 a4 w post :=
 calls_of_vc tab_ok Tryz.func124 (by kernel_rfl) (Eq.mpr (by kernel_rfl) h)
/-- (*scarp/scarpref11.Buf).Set; loop over (i : Int) -/
def f_scarpref11_Buf_Set (a0 : Option Addr) (w : World) (post : ((Option Addr)) → World → Prop) : Prop :=
 (withW (w.alloc (.cells #[.int .i64 1048576, .slice none 0 0] 155)) fun w1 =>
 (loopR (α := Int) (0) w1 fun x2 w3 next4 =>
 (onP a0 fun p5 =>
 (∃ s6 : SV, (w3.cell? (p5.add 2) = some (.slice s6.a s6.n s6.c)) ∧
 (bsplit (decide ((x2 : Int) < ((s6.n : Nat) : Int)))
 ((onP a0 fun p7 =>
 (∃ s8 : SV, (w3.cell? (p7.add 2) = some (.slice s8.a s8.n s8.c)) ∧ (0 ≤ (x2 : Int) ∧ (x2 : Int) < ((s8.n : Nat) : Int) ∧
 (onP s8.a fun p9 =>
 (∃ n10 : Int, (w3.cell? (p9.add ((x2 : Int).toNat * 2)) = some (.int .i64 n10)) ∧
 (withW (w3.alloc (.cells #[.int .i64 n10, .int .i64 1] 56)) fun w11 =>
 (c_scarpref11_Set_Add (some (⟨w.heap.size, 0, none⟩ : Addr)) (⟨(some (⟨w3.heap.size, 0, none⟩ : Addr)), 1, 1⟩) w11 fun (x12 : Int) w13 =>
 next4 ((IntKind.i64.wrap (x2 + 1))) w13))))))))
 (post ((some (⟨w.heap.size, 0, none⟩ : Addr))) w3))))))
theorem scarpref11_Buf_Set_go {w : World} {a0 : Option Addr} {post : RT [.cell (.ptr)] → World → Prop} (h : f_scarpref11_Buf_Set a0 w post) : c_scarpref11_Buf_Set a0 w post :=
 calls_of_vc tab_ok Tryz.func125 (by kernel_rfl) (Eq.mpr (by kernel_rfl) h)
/-- scarp/scarpref11.Form; loop over (k : Int, n : Int) -/
def f_scarpref11_Form (a0 : SV) (w : World) (post : Int → World → Prop) : Prop :=
 (loopR (α := Int × Int) (0, 0) w fun x1 w2 next3 =>
 (bsplit (decide ((x1.2 : Int) < ((a0.n : Nat) : Int)))
 ((bsplit (decide ((x1.2 : Int) < 8))
 ((0 ≤ (x1.2 : Int) ∧ (x1.2 : Int) < ((a0.n : Nat) : Int) ∧
 (onP a0.a fun p4 =>
 (∃ s5 : SV, (w2.cell? ((p4.add ((x1.2 : Int).toNat * 2)).add 1) = some (.slice s5.a s5.n s5.c)) ∧
 (withI (IntKind.i64.wrap (x1.1 + ((s5.n : Nat) : Int))) fun i6 =>
 (bsplit (decide ((0 : Int) < x1.2))
 ((bsplit (decide ((32 : Int) < i6))
 (post (x1.2) w2)
 (next3 (i6, (IntKind.i64.wrap (x1.2 + 1))) w2)))
 (next3 (i6, (IntKind.i64.wrap (x1.2 + 1))) w2)))))))
 (post (x1.2) w2)))
 (post (x1.2) w2)))
theorem scarpref11_Form_go {w : World} {a0 : SV} {post : RT [.cell (.int .i64)] → World → Prop} (h : f_scarpref11_Form a0 w post) : c_scarpref11_Form a0 w post :=
 calls_of_vc tab_ok Tryz.func126 (by kernel_rfl) (Eq.mpr (by kernel_rfl) h)
/-- (*scarp/scarpref11.Map).Prune; loop over (t6 : Int, t5 : SV, t7 : Int) -/
def f_scarpref11_Map_Prune_p1 (a0 : Option Addr) (w6 : World) (x1 : Int × SV × Int) (next3 : (Int × SV × Int) → World → Prop) : Prop :=
 (onP a0 fun p22 =>
 (∃ s23 : SV, (w6.cell? (p22.add 1) = some (.slice s23.a s23.n s23.c)) ∧ (0 ≤ (x1.2.2 : Int) ∧ (x1.2.2 : Int) < ((s23.n : Nat) : Int) ∧
 (onP s23.a fun p24 =>
 (∃ g25 : Int × Int × SV, (w6.cell? (p24.add ((x1.2.2 : Int).toNat * 3)) = some (.int .i64 g25.1) ∧ w6.cell? ((p24.add ((x1.2.2 : Int).toNat * 3)).add 1) = some (.int .i64 g25.2.1) ∧ w6.cell? ((p24.add ((x1.2.2 : Int).toNat * 3)).add 2) = some (.slice g25.2.2.a g25.2.2.n g25.2.2.c)) ∧
 (withW (w6.alloc (.cells #[.int .i64 g25.1, .int .i64 g25.2.1, .slice g25.2.2.a g25.2.2.n g25.2.2.c] 161)) fun w26 =>
 (appendR x1.2.1 (⟨(some (⟨w6.heap.size, 0, none⟩ : Addr)), 1, 1⟩) 3 40 [.int .i64 0, .int .i64 0, .slice none 0 0] 161 w26 fun (s27 : SV) w28 =>
 (withI (IntKind.i64.wrap (x1.2.2 + 1)) fun i29 =>
 next3 (x1.1, ⟨s27.a, s27.n, s27.c⟩, i29) w28))))))))
def f_scarpref11_Map_Prune (a0 : Option Addr) (a1 : Int) (w : World) (post : Int → World → Prop) : Prop :=
 (loopR (α := Int × SV × Int) (0, ⟨none, 0, 0⟩, 0) w fun x1 w2 next3 =>
 (onP a0 fun p4 =>
 (∃ s5 : SV, (w2.cell? (p4.add 1) = some (.slice s5.a s5.n s5.c)) ∧
 (bsplit (decide ((x1.2.2 : Int) < ((s5.n : Nat) : Int)))
 ((withW w2.drew fun w6 =>
 (onP a0 fun p7 =>
 (∃ s8 : SV, (w6.cell? (p7.add 1) = some (.slice s8.a s8.n s8.c)) ∧
 (bsplit (decide (((IntKind.i64.wrap (x1.2.2 + 1)) : Int) < ((s8.n : Nat) : Int)))
 ((onP a0 fun p9 =>
 (∃ s10 : SV, (w6.cell? (p9.add 1) = some (.slice s10.a s10.n s10.c)) ∧ (0 ≤ ((IntKind.i64.wrap (x1.2.2 + 1)) : Int) ∧ ((IntKind.i64.wrap (x1.2.2 + 1)) : Int) < ((s10.n : Nat) : Int) ∧
 (onP s10.a fun p11 =>
 (∃ n12 : Int, (w6.cell? (p11.add (((IntKind.i64.wrap (x1.2.2 + 1)) : Int).toNat * 3)) = some (.int .i64 n12)) ∧
 (onP a0 fun p13 =>
 (∃ s14 : SV, (w6.cell? (p13.add 1) = some (.slice s14.a s14.n s14.c)) ∧ (0 ≤ (x1.2.2 : Int) ∧ (x1.2.2 : Int) < ((s14.n : Nat) : Int) ∧
 (onP s14.a fun p15 =>
 (∃ n16 : Int, (w6.cell? (p15.add ((x1.2.2 : Int).toNat * 3)) = some (.int .i64 n16)) ∧
 (bsplit (decide ((n12 : Int) = n16))
 ((onP a0 fun p17 =>
 (∃ s18 : SV, (w6.cell? (p17.add 1) = some (.slice s18.a s18.n s18.c)) ∧ (0 ≤ ((IntKind.i64.wrap (x1.2.2 + 1)) : Int) ∧ ((IntKind.i64.wrap (x1.2.2 + 1)) : Int) < ((s18.n : Nat) : Int) ∧
 (onP s18.a fun p19 =>
 (∃ n20 : Int, (w6.cell? ((p19.add (((IntKind.i64.wrap (x1.2.2 + 1)) : Int).toNat * 3)).add 1) = some (.int .i64 n20)) ∧
 (bsplit (decide ((n20 : Int) ≤ a1))
 ((withI (IntKind.i64.wrap (x1.2.2 + 1)) fun i21 =>
 next3 ((IntKind.i64.wrap (x1.1 + 1)), ⟨x1.2.1.a, x1.2.1.n, x1.2.1.c⟩, i21) w6))
 ((f_scarpref11_Map_Prune_p1 a0 w6 x1 next3)))))))))
 ((f_scarpref11_Map_Prune_p1 a0 w6 x1 next3))))))))))))))
 ((f_scarpref11_Map_Prune_p1 a0 w6 x1 next3)))))))
 ((onP a0 fun p46 =>
 ((((∃ u, w2.cell? (p46.add 1) = some u) ∧ w2.frozen? (p46.add 1) = false)) ∧ (true = true) ∧
 (withW (w2.setCell (p46.add 1) (.slice x1.2.1.a x1.2.1.n x1.2.1.c)) fun w47 =>
 post (x1.1) w47))))))))
theorem scarpref11_Map_Prune_go {w : World} {a0 : Option Addr} {a1 : Int} {post : RT [.cell (.int .i64)] → World → Prop} (h : f_scarpref11_Map_Prune a0 a1 w post) : c_scarpref11_Map_Prune a0 a1 w post :=
 calls_of_vc tab_ok Tryz.func127 (by kernel_rfl) (Eq.mpr (by kernel_rfl) h)
/-- (*scarp/scarpref11.Book).Low; loop over (now : Int, i : Int) -/
def f_scarpref11_Book_Low (a0 : Option Addr) (a1 : Int) (w : World) (post : Int → World → Prop) : Prop :=
 (loopR (α := Int × Int) (a1, 0) w fun x1 w2 next3 =>
 (onP a0 fun p4 =>
 (∃ s5 : SV, (w2.cell? (p4.add 2) = some (.slice s5.a s5.n s5.c)) ∧
 (bsplit (decide ((x1.2 : Int) < ((s5.n : Nat) : Int)))
 ((onP a0 fun p6 =>
 (∃ s7 : SV, (w2.cell? (p6.add 2) = some (.slice s7.a s7.n s7.c)) ∧ (0 ≤ (x1.2 : Int) ∧ (x1.2 : Int) < ((s7.n : Nat) : Int) ∧
 (onP s7.a fun p8 =>
 (∃ n9 : Int, (w2.cell? (p8.add ((x1.2 : Int).toNat * 1)) = some (.int .i64 n9)) ∧
 (withI (if (n9 : Int) < x1.1 then n9 else x1.1) fun i10 =>
 next3 (i10, (IntKind.i64.wrap (x1.2 + 1))) w2)))))))
 (post (x1.1) w2)))))
theorem scarpref11_Book_Low_go {w : World} {a0 : Option Addr} {a1 : Int} {post : RT [.cell (.int .i64)] → World → Prop} (h : f_scarpref11_Book_Low a0 a1 w post) : c_scarpref11_Book_Low a0 a1 w post :=
 calls_of_vc tab_ok Tryz.func128 (by kernel_rfl) (Eq.mpr (by kernel_rfl) h)
/-- scarp/scarpref20.Wrote -/
def f_scarpref20_Wrote (a0c0 : Int) (a0c1 : Int) (a0c2 : Int) (a0c3 : Int) (a0c4 : Int) (a0c5 : SV) (a0c6 : SV) (w : World) (post : Bool → World → Prop) : Prop :=
 (withW (w.alloc (.cells #[.int .i64 a0c0, .int .i64 a0c1, .int .i64 a0c2, .int .i64 a0c3, .int .i64 a0c4, .slice a0c5.a a0c5.n a0c5.c, .slice a0c6.a a0c6.n a0c6.c] 73)) fun w1 =>
 (∃ n2 : Int, (w1.cell? (⟨w.heap.size, 0, none⟩ : Addr) = some (.int .i64 n2)) ∧
 (bsplit (decide ((n2 : Int) = 3))
 ((∃ s3 : SV, (w1.cell? ((⟨w.heap.size, 0, none⟩ : Addr).add 6) = some (.slice s3.a s3.n s3.c)) ∧ post ((decide ((0 : Int) < ((s3.n : Nat) : Int)))) w1))
 (post (false) w1))))
theorem scarpref20_Wrote_go {w : World} {a0c0 : Int} {a0c1 : Int} {a0c2 : Int} {a0c3 : Int} {a0c4 : Int} {a0c5 : SV} {a0c6 : SV} {post : RT [.cell (.bool)] → World → Prop} (h : f_scarpref20_Wrote a0c0 a0c1 a0c2 a0c3 a0c4 a0c5 a0c6 w post) : c_scarpref20_Wrote a0c0 a0c1 a0c2 a0c3 a0c4 a0c5 a0c6 w post :=
 calls_of_vc tab_ok Tryz.func129 (by kernel_rfl) (Eq.mpr (by kernel_rfl) h)
/-- (*scarp/scarpref11.Map).in -/
def f_scarpref11_Map_in (a0 : Option Addr) (a1c0 : Int) (a1c1 : Int) (w : World) (post : Bool → World → Prop) : Prop :=
 (withW (w.alloc (.cells #[.int .i64 a1c0, .int .i64 a1c1] 56)) fun w1 =>
 (withW w1.drew fun w3 =>
 (∃ S2 : World → Prop, S2 w3 ∧
 (∃ g4 : Int × Int, ((∀ w5, S2 w5 → w5.cell? (⟨w.heap.size, 0, none⟩ : Addr) = some (.int .i64 g4.1) ∧ w5.cell? ((⟨w.heap.size, 0, none⟩ : Addr).add 1) = some (.int .i64 g4.2))) ∧
 (c_scarpref11_May g4.1 g4.2 w3 fun (x6 : Bool) w7 =>
 (S2 w7 ∧
 (bsplit x6 ((∃ n8 : Int, ((∀ w9, S2 w9 → w9.cell? (⟨w.heap.size, 0, none⟩ : Addr) = some (.int .i64 n8))) ∧
 (∃ n10 : Int, ((∀ w11, S2 w11 → w11.cell? ((⟨w.heap.size, 0, none⟩ : Addr).add 1) = some (.int .i64 n10))) ∧
 (onP a0 fun p12 =>
 (∃ n13 : Int, ((∀ w14, S2 w14 → w14.cell? p12 = some (.int .i64 n13))) ∧ post ((decide (((IntKind.i64.wrap (n8 + n10)) : Int) ≤ n13))) w7)))))
 (post (false) w7))))))))
theorem scarpref11_Map_in_go {w : World} {a0 : Option Addr} {a1c0 : Int} {a1c1 : Int} {post : RT [.cell (.bool)] → World → Prop} (h : f_scarpref11_Map_in a0 a1c0 a1c1 w post) : c_scarpref11_Map_in a0 a1c0 a1c1 w post :=
 calls_of_vc tab_ok Tryz.func146 (by kernel_rfl) (Eq.mpr (by kernel_rfl) h)
/-- (*scarp/scarpref11.Set).Add; loop over (t4 : Int, i : Int); loop over (out : SV, i : Int) -/
def f_scarpref11_Set_Add (a0 : Option Addr) (a1 : SV) (w : World) (post : Int → World → Prop) : Prop :=
 (loopR (α := Int × Int) (0, 0) w fun x1 w2 next3 =>
 (bsplit (decide ((x1.2 : Int) < ((a1.n : Nat) : Int)))
 ((0 ≤ (x1.2 : Int) ∧ (x1.2 : Int) < ((a1.n : Nat) : Int) ∧
 (onP a1.a fun p4 =>
 (∃ g5 : Int × Int, (w2.cell? (p4.add ((x1.2 : Int).toNat * 2)) = some (.int .i64 g5.1) ∧ w2.cell? ((p4.add ((x1.2 : Int).toNat * 2)).add 1) = some (.int .i64 g5.2)) ∧
 (c_scarpref11_May g5.1 g5.2 w2 fun (x6 : Bool) w7 =>
 (bsplit (!x6)
 (post (1) w7)
 (next3 (x1.1, (IntKind.i64.wrap (x1.2 + 1))) w7)))))))
 ((withW (w2.alloc (.cells #[] 56)) fun w8 =>
 (onP a0 fun p9 =>
 (∃ s10 : SV, (w8.cell? (p9.add 1) = some (.slice s10.a s10.n s10.c)) ∧
 (appendR (⟨(some (⟨w2.heap.size, 0, none⟩ : Addr)), 0, 0⟩) s10 2 16 [.int .i64 0, .int .i64 0] 56 w8 fun (s11 : SV) w12 =>
 (loopR (α := SV × Int) (⟨s11.a, s11.n, s11.c⟩, 0) w12 fun x13 w14 next15 =>
 (bsplit (decide ((x13.2 : Int) < ((a1.n : Nat) : Int)))
 ((0 ≤ (x13.2 : Int) ∧ (x13.2 : Int) < ((a1.n : Nat) : Int) ∧
 (onP a1.a fun p16 =>
 (∃ g17 : Int × Int, (w14.cell? (p16.add ((x13.2 : Int).toNat * 2)) = some (.int .i64 g17.1) ∧ w14.cell? ((p16.add ((x13.2 : Int).toNat * 2)).add 1) = some (.int .i64 g17.2)) ∧
 (c_scarpref11_put x13.1 g17.1 g17.2 w14 fun (x18 : SV) w19 =>
 next15 (⟨x18.a, x18.n, x18.c⟩, (IntKind.i64.wrap (x13.2 + 1))) w19)))))
 ((onP a0 fun p20 =>
 (∃ n21 : Int, (w14.cell? p20 = some (.int .i64 n21)) ∧
 (bsplit (decide (((if (0 : Int) > n21 then 0 else n21) : Int) < ((x13.1.n : Nat) : Int)))
 (post (7) w14)
 ((onP a0 fun p22 =>
 ((((∃ u, w14.cell? (p22.add 1) = some u) ∧ w14.frozen? (p22.add 1) = false)) ∧ (true = true) ∧
 (withW (w14.setCell (p22.add 1) (.slice x13.1.a x13.1.n x13.1.c)) fun w23 =>
 post (0) w23)))))))))))))))))
theorem scarpref11_Set_Add_go {w : World} {a0 : Option Addr} {a1 : SV} {post : RT [.cell (.int .i64)] → World → Prop} (h : f_scarpref11_Set_Add a0 a1 w post) : c_scarpref11_Set_Add a0 a1 w post :=
 calls_of_vc tab_ok Tryz.func147 (by kernel_rfl) (Eq.mpr (by kernel_rfl) h)
/-- (*scarp/scarpref11.Buf).Get; loop over (t4 : SV, t5 : Bool, i : Int) -/
def f_scarpref11_Buf_Get (a0 : Option Addr) (a1 : Int) (w : World) (post : (SV × Bool) → World → Prop) : Prop :=
 (loopR (α := SV × Bool × Int) (⟨none, 0, 0⟩, false, 0) w fun x1 w2 next3 =>
 (onP a0 fun p4 =>
 (∃ s5 : SV, (w2.cell? (p4.add 2) = some (.slice s5.a s5.n s5.c)) ∧
 (bsplit (decide ((x1.2.2 : Int) < ((s5.n : Nat) : Int)))
 ((onP a0 fun p6 =>
 (∃ s7 : SV, (w2.cell? (p6.add 2) = some (.slice s7.a s7.n s7.c)) ∧ (0 ≤ (x1.2.2 : Int) ∧ (x1.2.2 : Int) < ((s7.n : Nat) : Int) ∧
 (onP s7.a fun p8 =>
 (∃ n9 : Int, (w2.cell? (p8.add ((x1.2.2 : Int).toNat * 2)) = some (.int .i64 n9)) ∧
 (bsplit (decide ((n9 : Int) = a1))
 ((onP a0 fun p10 =>
 (∃ s11 : SV, (w2.cell? (p10.add 2) = some (.slice s11.a s11.n s11.c)) ∧ (0 ≤ (x1.2.2 : Int) ∧ (x1.2.2 : Int) < ((s11.n : Nat) : Int) ∧
 (onP s11.a fun p12 =>
 (∃ s13 : SV, (w2.cell? ((p12.add ((x1.2.2 : Int).toNat * 2)).add 1) = some (.slice s13.a s13.n s13.c)) ∧ post (⟨s13.a, s13.n, s13.c⟩, true) w2))))))
 ((withI (IntKind.i64.wrap (x1.2.2 + 1)) fun i14 =>
 next3 (⟨x1.1.a, x1.1.n, x1.1.c⟩, x1.2.1, i14) w2)))))))))
 (post (⟨none, 0, 0⟩, false) w2)))))
theorem scarpref11_Buf_Get_go {w : World} {a0 : Option Addr} {a1 : Int} {post : RT [.cell (.slice), .cell (.bool)] → World → Prop} (h : f_scarpref11_Buf_Get a0 a1 w post) : c_scarpref11_Buf_Get a0 a1 w post :=
 calls_of_vc tab_ok Tryz.func148 (by kernel_rfl) (Eq.mpr (by kernel_rfl) h)
/-- (*scarp/scarpref11.Map).Get; loop over (t8 : SV, t9 : Int, t10 : Int) -/
def f_scarpref11_Map_Get (a0 : Option Addr) (a1 : Int) (a2 : Int) (w : World) (post : (SV × Int) → World → Prop) : Prop :=
 (bsplit (decide ((a1 : Int) < 0))
 (post (⟨none, 0, 0⟩, 0) w)
 ((onP a0 fun p1 =>
 (∃ n2 : Int, (w.cell? p1 = some (.int .i64 n2)) ∧
 (bsplit (decide ((n2 : Int) ≤ a1))
 (post (⟨none, 0, 0⟩, 0) w)
 ((0 ≤ (40 : Int) ∧ (40 : Int) ≤ 40 ∧ ((1 : Nat) : Int) * 40 ≤ 2 ^ 48 ∧ (40 : Int) ≤ 2 ^ 48 ∧
 (withW (w.alloc (.cells (zrow [.int .u8 0] (40 : Int).toNat).toArray 5)) fun w3 =>
 (loopR (α := SV × Int × Int) (⟨(some (⟨w.heap.size, 0, none⟩ : Addr)), ((40 : Int).toNat), ((40 : Int).toNat)⟩, 0, 0) w3 fun x4 w5 next6 =>
 (onP a0 fun p7 =>
 (∃ s8 : SV, (w5.cell? (p7.add 1) = some (.slice s8.a s8.n s8.c)) ∧
 (bsplit (decide ((x4.2.2 : Int) < ((s8.n : Nat) : Int)))
 ((onP a0 fun p9 =>
 (∃ s10 : SV, (w5.cell? (p9.add 1) = some (.slice s10.a s10.n s10.c)) ∧ (0 ≤ (x4.2.2 : Int) ∧ (x4.2.2 : Int) < ((s10.n : Nat) : Int) ∧
 (onP s10.a fun p11 =>
 (∃ n12 : Int, (w5.cell? (p11.add ((x4.2.2 : Int).toNat * 3)) = some (.int .i64 n12)) ∧
 (bsplit (decide ((n12 : Int) = a1))
 ((onP a0 fun p13 =>
 (∃ s14 : SV, (w5.cell? (p13.add 1) = some (.slice s14.a s14.n s14.c)) ∧ (0 ≤ (x4.2.2 : Int) ∧ (x4.2.2 : Int) < ((s14.n : Nat) : Int) ∧
 (onP s14.a fun p15 =>
 (∃ n16 : Int, (w5.cell? ((p15.add ((x4.2.2 : Int).toNat * 3)).add 1) = some (.int .i64 n16)) ∧
 (bsplit (decide ((n16 : Int) ≤ a2))
 ((onP a0 fun p17 =>
 (∃ s18 : SV, (w5.cell? (p17.add 1) = some (.slice s18.a s18.n s18.c)) ∧ (0 ≤ (x4.2.2 : Int) ∧ (x4.2.2 : Int) < ((s18.n : Nat) : Int) ∧
 (onP s18.a fun p19 =>
 (∃ s20 : SV, (w5.cell? ((p19.add ((x4.2.2 : Int).toNat * 3)).add 2) = some (.slice s20.a s20.n s20.c)) ∧
 (onP a0 fun p21 =>
 (∃ s22 : SV, (w5.cell? (p21.add 1) = some (.slice s22.a s22.n s22.c)) ∧ (0 ≤ (x4.2.2 : Int) ∧ (x4.2.2 : Int) < ((s22.n : Nat) : Int) ∧
 (onP s22.a fun p23 =>
 (∃ n24 : Int, (w5.cell? ((p23.add ((x4.2.2 : Int).toNat * 3)).add 1) = some (.int .i64 n24)) ∧
 (withI (IntKind.i64.wrap (x4.2.2 + 1)) fun i25 =>
 next6 (⟨s20.a, s20.n, s20.c⟩, n24, i25) w5))))))))))))
 ((withI (IntKind.i64.wrap (x4.2.2 + 1)) fun i26 =>
 next6 (⟨x4.1.a, x4.1.n, x4.1.c⟩, x4.2.1, i26) w5)))))))))
 ((withI (IntKind.i64.wrap (x4.2.2 + 1)) fun i27 =>
 next6 (⟨x4.1.a, x4.1.n, x4.1.c⟩, x4.2.1, i27) w5)))))))))
 (post (⟨x4.1.a, x4.1.n, x4.1.c⟩, x4.2.1) w5)))))))))))))
theorem scarpref11_Map_Get_go {w : World} {a0 : Option Addr} {a1 : Int} {a2 : Int} {post : RT [.cell (.slice), .cell (.int .i64)] → World → Prop} (h : f_scarpref11_Map_Get a0 a1 a2 w post) : c_scarpref11_Map_Get a0 a1 a2 w post :=
 calls_of_vc tab_ok Tryz.func149 (by kernel_rfl) (Eq.mpr (by kernel_rfl) h)
/-- (*scarp/scarpref11.Book).Close -/
def f_scarpref11_Book_Close (a0 : Option Addr) (a1 : Int) (w : World) (post : Int → World → Prop) : Prop :=
 (c_scarpref11_Book_place a0 a1 w fun (x1 : Int) w2 =>
 (bsplit (decide ((x1 : Int) < 0))
 (post (14) w2)
 ((onP a0 fun p3 =>
 (∃ s4 : SV, (w2.cell? (p3.add 1) = some (.slice s4.a s4.n s4.c)) ∧ (0 ≤ (0 : Int) ∧ (0 : Int) ≤ (x1 : Int) ∧ (x1 : Int) ≤ ((s4.c : Nat) : Int) ∧
 (appendR (⟨none, 0, 0⟩) (⟨(sub? s4.a (0 : Int).toNat s4.c 1), ((x1 : Int).toNat - (0 : Int).toNat), (s4.c - (0 : Int).toNat)⟩) 1 8 [.int .i64 0] 3 w2 fun (s5 : SV) w6 =>
 (onP a0 fun p7 =>
 (∃ s8 : SV, (w6.cell? (p7.add 2) = some (.slice s8.a s8.n s8.c)) ∧ (0 ≤ (0 : Int) ∧ (0 : Int) ≤ (x1 : Int) ∧ (x1 : Int) ≤ ((s8.c : Nat) : Int) ∧
 (appendR (⟨none, 0, 0⟩) (⟨(sub? s8.a (0 : Int).toNat s8.c 1), ((x1 : Int).toNat - (0 : Int).toNat), (s8.c - (0 : Int).toNat)⟩) 1 8 [.int .i64 0] 3 w6 fun (s9 : SV) w10 =>
 (onP a0 fun p11 =>
 (∃ s12 : SV, (w10.cell? (p11.add 1) = some (.slice s12.a s12.n s12.c)) ∧ (0 ≤ ((IntKind.i64.wrap (x1 + 1)) : Int) ∧ ((IntKind.i64.wrap (x1 + 1)) : Int) ≤ (((s12.n : Nat) : Int) : Int) ∧ (((s12.n : Nat) : Int) : Int) ≤ ((s12.c : Nat) : Int) ∧
 (appendR s5 (⟨(sub? s12.a ((IntKind.i64.wrap (x1 + 1)) : Int).toNat s12.c 1), ((((s12.n : Nat) : Int) : Int).toNat - ((IntKind.i64.wrap (x1 + 1)) : Int).toNat), (s12.c - ((IntKind.i64.wrap (x1 + 1)) : Int).toNat)⟩) 1 8 [.int .i64 0] 3 w10 fun (s13 : SV) w14 =>
 (onP a0 fun p15 =>
 ((((∃ u, w14.cell? (p15.add 1) = some u) ∧ w14.frozen? (p15.add 1) = false)) ∧ (true = true) ∧
 (withW (w14.setCell (p15.add 1) (.slice s13.a s13.n s13.c)) fun w16 =>
 (onP a0 fun p17 =>
 (∃ s18 : SV, (w16.cell? (p17.add 2) = some (.slice s18.a s18.n s18.c)) ∧ (0 ≤ ((IntKind.i64.wrap (x1 + 1)) : Int) ∧ ((IntKind.i64.wrap (x1 + 1)) : Int) ≤ (((s18.n : Nat) : Int) : Int) ∧ (((s18.n : Nat) : Int) : Int) ≤ ((s18.c : Nat) : Int) ∧
 (appendR s9 (⟨(sub? s18.a ((IntKind.i64.wrap (x1 + 1)) : Int).toNat s18.c 1), ((((s18.n : Nat) : Int) : Int).toNat - ((IntKind.i64.wrap (x1 + 1)) : Int).toNat), (s18.c - ((IntKind.i64.wrap (x1 + 1)) : Int).toNat)⟩) 1 8 [.int .i64 0] 3 w16 fun (s19 : SV) w20 =>
 (onP a0 fun p21 =>
 ((((∃ u, w20.cell? (p21.add 2) = some u) ∧ w20.frozen? (p21.add 2) = false)) ∧ (true = true) ∧
 (withW (w20.setCell (p21.add 2) (.slice s19.a s19.n s19.c)) fun w22 =>
 post (0) w22)))))))))))))))))))))))))
theorem scarpref11_Book_Close_go {w : World} {a0 : Option Addr} {a1 : Int} {post : RT [.cell (.int .i64)] → World → Prop} (h : f_scarpref11_Book_Close a0 a1 w post) : c_scarpref11_Book_Close a0 a1 w post :=
 calls_of_vc tab_ok Tryz.func150 (by kernel_rfl) (Eq.mpr (by kernel_rfl) h)
/-- (*scarp/scarpref11.Set).Has -/
def f_scarpref11_Set_Has (a0 : Option Addr) (a1 : Int) (w : World) (post : Bool → World → Prop) : Prop :=
 (c_scarpref11_Set_Meets a0 a1 1 w fun (x1 : Bool) w2 =>
 post (x1) w2)
theorem scarpref11_Set_Has_go {w : World} {a0 : Option Addr} {a1 : Int} {post : RT [.cell (.bool)] → World → Prop} (h : f_scarpref11_Set_Has a0 a1 w post) : c_scarpref11_Set_Has a0 a1 w post :=
 calls_of_vc tab_ok Tryz.func151 (by kernel_rfl) (Eq.mpr (by kernel_rfl) h)
/-- scarp/scarpref11.Against; loop over (t4 : Bool, i : Int) -/
def f_scarpref11_Against (a0c0 : Int) (a0c1 : SV) (a1 : Option Addr) (w : World) (post : Bool → World → Prop) : Prop :=
 (withW (w.alloc (.cells #[.int .i64 a0c0, .slice a0c1.a a0c1.n a0c1.c] 70)) fun w1 =>
 (loopR (α := Bool × Int) (false, 0) w1 fun x2 w3 next4 =>
 (∃ s5 : SV, (w3.cell? ((⟨w.heap.size, 0, none⟩ : Addr).add 1) = some (.slice s5.a s5.n s5.c)) ∧
 (bsplit (decide ((x2.2 : Int) < ((s5.n : Nat) : Int)))
 ((∃ s6 : SV, (w3.cell? ((⟨w.heap.size, 0, none⟩ : Addr).add 1) = some (.slice s6.a s6.n s6.c)) ∧ (0 ≤ (x2.2 : Int) ∧ (x2.2 : Int) < ((s6.n : Nat) : Int) ∧
 (onP s6.a fun p7 =>
 (∃ n8 : Int, (w3.cell? (p7.add ((x2.2 : Int).toNat * 2)) = some (.int .i64 n8)) ∧
 (c_scarpref11_Set_Has a1 n8 w3 fun (x9 : Bool) w10 =>
 (bsplit x9 (post (true) w10)
 (next4 (x2.1, (IntKind.i64.wrap (x2.2 + 1))) w10))))))))
 (post (false) w3)))))
theorem scarpref11_Against_go {w : World} {a0c0 : Int} {a0c1 : SV} {a1 : Option Addr} {post : RT [.cell (.bool)] → World → Prop} (h : f_scarpref11_Against a0c0 a0c1 a1 w post) : c_scarpref11_Against a0c0 a0c1 a1 w post :=
 calls_of_vc tab_ok Tryz.func152 (by kernel_rfl) (Eq.mpr (by kernel_rfl) h)
/-- scarp/scarpref11.May -/
def f_scarpref11_May (a0c0 : Int) (a0c1 : Int) (w : World) (post : Bool → World → Prop) : Prop :=
 (withW (w.alloc (.cells #[.int .i64 a0c0, .int .i64 a0c1] 56)) fun w1 =>
 (∃ n2 : Int, (w1.cell? (⟨w.heap.size, 0, none⟩ : Addr) = some (.int .i64 n2)) ∧
 (bsplit (decide ((0 : Int) ≤ n2))
 ((∃ n3 : Int, (w1.cell? (⟨w.heap.size, 0, none⟩ : Addr) = some (.int .i64 n3)) ∧
 (bsplit (decide ((n3 : Int) ≤ 1048576))
 ((∃ n4 : Int, (w1.cell? ((⟨w.heap.size, 0, none⟩ : Addr).add 1) = some (.int .i64 n4)) ∧
 (bsplit (decide ((1 : Int) ≤ n4))
 ((∃ n5 : Int, (w1.cell? ((⟨w.heap.size, 0, none⟩ : Addr).add 1) = some (.int .i64 n5)) ∧
 (bsplit (decide ((n5 : Int) ≤ 1048576))
 ((∃ n6 : Int, (w1.cell? (⟨w.heap.size, 0, none⟩ : Addr) = some (.int .i64 n6)) ∧
 (∃ n7 : Int, (w1.cell? ((⟨w.heap.size, 0, none⟩ : Addr).add 1) = some (.int .i64 n7)) ∧ post ((decide ((n6 : Int) ≤ (IntKind.i64.wrap (1048577 - n7))))) w1)))
 (post (false) w1))))
 (post (false) w1))))
 (post (false) w1))))
 (post (false) w1))))
theorem scarpref11_May_go {w : World} {a0c0 : Int} {a0c1 : Int} {post : RT [.cell (.bool)] → World → Prop} (h : f_scarpref11_May a0c0 a0c1 w post) : c_scarpref11_May a0c0 a0c1 w post :=
 calls_of_vc tab_ok Tryz.func167 (by kernel_rfl) (Eq.mpr (by kernel_rfl) h)
/-- scarp/scarpref11.put; loop over (t7 : SV, t8 : Bool, t5 : Int, t6 : Int, t9 : Int) -/
def f_scarpref11_put_p1 (w11 : World) (w6 : World) (x5 : SV × Bool × Int × Int × Int) (next7 : (SV × Bool × Int × Int × Int) → World → Prop) : Prop :=
 ((∃ g14 : Int × Int, (w11.cell? (⟨w6.heap.size, 0, none⟩ : Addr) = some (.int .i64 g14.1) ∧ w11.cell? ((⟨w6.heap.size, 0, none⟩ : Addr).add 1) = some (.int .i64 g14.2)) ∧
 (withW (w11.alloc (.cells #[.int .i64 g14.1, .int .i64 g14.2] 56)) fun w15 =>
 (appendR x5.1 (⟨(some (⟨w11.heap.size, 0, none⟩ : Addr)), 1, 1⟩) 2 16 [.int .i64 0, .int .i64 0] 56 w15 fun (s16 : SV) w17 =>
 (withI (IntKind.i64.wrap (x5.2.2.2.2 + 1)) fun i18 =>
 next7 (⟨s16.a, s16.n, s16.c⟩, x5.2.1, x5.2.2.1, x5.2.2.2.1, i18) w17)))))
def f_scarpref11_put (a0 : SV) (a1c0 : Int) (a1c1 : Int) (w : World) (post : SV → World → Prop) : Prop :=
 (withW (w.alloc (.cells #[.int .i64 a1c0, .int .i64 a1c1] 56)) fun w1 =>
 (∃ n2 : Int, (w1.cell? (⟨w.heap.size, 0, none⟩ : Addr) = some (.int .i64 n2)) ∧
 (∃ n3 : Int, (w1.cell? (⟨w.heap.size, 0, none⟩ : Addr) = some (.int .i64 n3)) ∧
 (∃ n4 : Int, (w1.cell? ((⟨w.heap.size, 0, none⟩ : Addr).add 1) = some (.int .i64 n4)) ∧
 (loopR (α := SV × Bool × Int × Int × Int) (⟨none, 0, 0⟩, false, n2, (IntKind.i64.wrap (n3 + n4)), 0) w1 fun x5 w6 next7 =>
 (bsplit (decide ((x5.2.2.2.2 : Int) < ((a0.n : Nat) : Int)))
 ((0 ≤ (x5.2.2.2.2 : Int) ∧ (x5.2.2.2.2 : Int) < ((a0.n : Nat) : Int) ∧
 (onP a0.a fun p8 =>
 (∃ g9 : Int × Int, (w6.cell? (p8.add ((x5.2.2.2.2 : Int).toNat * 2)) = some (.int .i64 g9.1) ∧ w6.cell? ((p8.add ((x5.2.2.2.2 : Int).toNat * 2)).add 1) = some (.int .i64 g9.2)) ∧
 (withW (w6.alloc (.cells #[.int .i64 0, .int .i64 0] 56)) fun w10 =>
 ((((∃ u, w10.cell? (⟨w6.heap.size, 0, none⟩ : Addr) = some u) ∧ w10.frozen? (⟨w6.heap.size, 0, none⟩ : Addr) = false) ∧ ((∃ u, w10.cell? ((⟨w6.heap.size, 0, none⟩ : Addr).add 1) = some u) ∧ w10.frozen? ((⟨w6.heap.size, 0, none⟩ : Addr).add 1) = false)) ∧ (true = true) ∧
 (withW ((w10.setCell (⟨w6.heap.size, 0, none⟩ : Addr) (.int .i64 g9.1)).setCell ((⟨w6.heap.size, 0, none⟩ : Addr).add 1) (.int .i64 g9.2)) fun w11 =>
 (∃ n12 : Int, (w11.cell? (⟨w6.heap.size, 0, none⟩ : Addr) = some (.int .i64 n12)) ∧
 (∃ n13 : Int, (w11.cell? ((⟨w6.heap.size, 0, none⟩ : Addr).add 1) = some (.int .i64 n13)) ∧
 (bsplit (decide (((IntKind.i64.wrap (n12 + n13)) : Int) < x5.2.2.1)) (f_scarpref11_put_p1 w11 w6 x5 next7)
 ((∃ n19 : Int, (w11.cell? (⟨w6.heap.size, 0, none⟩ : Addr) = some (.int .i64 n19)) ∧
 (bsplit (decide ((x5.2.2.2.1 : Int) < n19))
 ((bsplit (!x5.2.1)
 ((withW (w11.alloc (.cells #[.int .i64 x5.2.2.1, .int .i64 (IntKind.i64.wrap (x5.2.2.2.1 - x5.2.2.1))] 56)) fun w20 =>
 (appendR x5.1 (⟨(some (⟨w11.heap.size, 0, none⟩ : Addr)), 1, 1⟩) 2 16 [.int .i64 0, .int .i64 0] 56 w20 fun (s21 : SV) w22 =>
 (∃ g23 : Int × Int, (w22.cell? (⟨w6.heap.size, 0, none⟩ : Addr) = some (.int .i64 g23.1) ∧ w22.cell? ((⟨w6.heap.size, 0, none⟩ : Addr).add 1) = some (.int .i64 g23.2)) ∧
 (withW (w22.alloc (.cells #[.int .i64 g23.1, .int .i64 g23.2] 56)) fun w24 =>
 (appendR s21 (⟨(some (⟨w22.heap.size, 0, none⟩ : Addr)), 1, 1⟩) 2 16 [.int .i64 0, .int .i64 0] 56 w24 fun (s25 : SV) w26 =>
 (withI (IntKind.i64.wrap (x5.2.2.2.2 + 1)) fun i27 =>
 next7 (⟨s25.a, s25.n, s25.c⟩, true, x5.2.2.1, x5.2.2.2.1, i27) w26))))))) (f_scarpref11_put_p1 w11 w6 x5 next7)))
 ((∃ n33 : Int, (w11.cell? (⟨w6.heap.size, 0, none⟩ : Addr) = some (.int .i64 n33)) ∧
 (withI (if (n33 : Int) < x5.2.2.1 then n33 else x5.2.2.1) fun i34 =>
 (∃ n35 : Int, (w11.cell? (⟨w6.heap.size, 0, none⟩ : Addr) = some (.int .i64 n35)) ∧
 (∃ n36 : Int, (w11.cell? ((⟨w6.heap.size, 0, none⟩ : Addr).add 1) = some (.int .i64 n36)) ∧
 (withI (if ((IntKind.i64.wrap (n35 + n36)) : Int) > x5.2.2.2.1 then (IntKind.i64.wrap (n35 + n36)) else x5.2.2.2.1) fun i37 =>
 (withI (IntKind.i64.wrap (x5.2.2.2.2 + 1)) fun i38 =>
 next7 (⟨x5.1.a, x5.1.n, x5.1.c⟩, x5.2.1, i34, i37, i38) w11))))))))))))))))))))
 ((bsplit (!x5.2.1)
 ((withW (w6.alloc (.cells #[.int .i64 x5.2.2.1, .int .i64 (IntKind.i64.wrap (x5.2.2.2.1 - x5.2.2.1))] 56)) fun w39 =>
 (appendR x5.1 (⟨(some (⟨w6.heap.size, 0, none⟩ : Addr)), 1, 1⟩) 2 16 [.int .i64 0, .int .i64 0] 56 w39 fun (s40 : SV) w41 =>
 post (⟨s40.a, s40.n, s40.c⟩) w41)))
 (post (⟨x5.1.a, x5.1.n, x5.1.c⟩) w6)))))))))
theorem scarpref11_put_go {w : World} {a0 : SV} {a1c0 : Int} {a1c1 : Int} {post : RT [.cell (.slice)] → World → Prop} (h : f_scarpref11_put a0 a1c0 a1c1 w post) : c_scarpref11_put a0 a1c0 a1c1 w post :=
 calls_of_vc tab_ok Tryz.func168 (by kernel_rfl) (Eq.mpr (by kernel_rfl) h)
/-- (*scarp/scarpref11.Book).place; loop over (t4 : Int, i : Int) -/
def f_scarpref11_Book_place (a0 : Option Addr) (a1 : Int) (w : World) (post : Int → World → Prop) : Prop :=
 (loopR (α := Int × Int) (0, 0) w fun x1 w2 next3 =>
 (onP a0 fun p4 =>
 (∃ s5 : SV, (w2.cell? (p4.add 1) = some (.slice s5.a s5.n s5.c)) ∧
 (bsplit (decide ((x1.2 : Int) < ((s5.n : Nat) : Int)))
 ((onP a0 fun p6 =>
 (∃ s7 : SV, (w2.cell? (p6.add 1) = some (.slice s7.a s7.n s7.c)) ∧ (0 ≤ (x1.2 : Int) ∧ (x1.2 : Int) < ((s7.n : Nat) : Int) ∧
 (onP s7.a fun p8 =>
 (∃ n9 : Int, (w2.cell? (p8.add ((x1.2 : Int).toNat * 1)) = some (.int .i64 n9)) ∧
 (bsplit (decide ((n9 : Int) = a1))
 (post (x1.2) w2)
 (next3 (x1.1, (IntKind.i64.wrap (x1.2 + 1))) w2))))))))
 (post ((-1)) w2)))))
theorem scarpref11_Book_place_go {w : World} {a0 : Option Addr} {a1 : Int} {post : RT [.cell (.int .i64)] → World → Prop} (h : f_scarpref11_Book_place a0 a1 w post) : c_scarpref11_Book_place a0 a1 w post :=
 calls_of_vc tab_ok Tryz.func169 (by kernel_rfl) (Eq.mpr (by kernel_rfl) h)
/-- (*scarp/scarpref11.Set).Meets; loop over (t4 : Bool, i : Int) -/
def f_scarpref11_Set_Meets (a0 : Option Addr) (a1c0 : Int) (a1c1 : Int) (w : World) (post : Bool → World → Prop) : Prop :=
 (withW (w.alloc (.cells #[.int .i64 a1c0, .int .i64 a1c1] 56)) fun w1 =>
 (∃ g2 : Int × Int, (w1.cell? (⟨w.heap.size, 0, none⟩ : Addr) = some (.int .i64 g2.1) ∧ w1.cell? ((⟨w.heap.size, 0, none⟩ : Addr).add 1) = some (.int .i64 g2.2)) ∧
 (c_scarpref11_May g2.1 g2.2 w1 fun (x3 : Bool) w4 =>
 (bsplit (!x3)
 (post (false) w4)
 ((loopR (α := Bool × Int) (false, 0) w4 fun x5 w6 next7 =>
 (onP a0 fun p8 =>
 (∃ s9 : SV, (w6.cell? (p8.add 1) = some (.slice s9.a s9.n s9.c)) ∧
 (bsplit (decide ((x5.2 : Int) < ((s9.n : Nat) : Int)))
 ((withW w6.drew fun w10 =>
 (∃ n11 : Int, (w10.cell? (⟨w.heap.size, 0, none⟩ : Addr) = some (.int .i64 n11)) ∧
 (onP a0 fun p12 =>
 (∃ s13 : SV, (w10.cell? (p12.add 1) = some (.slice s13.a s13.n s13.c)) ∧ (0 ≤ (x5.2 : Int) ∧ (x5.2 : Int) < ((s13.n : Nat) : Int) ∧
 (onP s13.a fun p14 =>
 (∃ n15 : Int, (w10.cell? (p14.add ((x5.2 : Int).toNat * 2)) = some (.int .i64 n15)) ∧
 (onP a0 fun p16 =>
 (∃ s17 : SV, (w10.cell? (p16.add 1) = some (.slice s17.a s17.n s17.c)) ∧ (0 ≤ (x5.2 : Int) ∧ (x5.2 : Int) < ((s17.n : Nat) : Int) ∧
 (onP s17.a fun p18 =>
 (∃ n19 : Int, (w10.cell? ((p18.add ((x5.2 : Int).toNat * 2)).add 1) = some (.int .i64 n19)) ∧
 (bsplit (decide ((n11 : Int) < (IntKind.i64.wrap (n15 + n19))))
 ((onP a0 fun p20 =>
 (∃ s21 : SV, (w10.cell? (p20.add 1) = some (.slice s21.a s21.n s21.c)) ∧ (0 ≤ (x5.2 : Int) ∧ (x5.2 : Int) < ((s21.n : Nat) : Int) ∧
 (onP s21.a fun p22 =>
 (∃ n23 : Int, (w10.cell? (p22.add ((x5.2 : Int).toNat * 2)) = some (.int .i64 n23)) ∧
 (∃ n24 : Int, (w10.cell? (⟨w.heap.size, 0, none⟩ : Addr) = some (.int .i64 n24)) ∧
 (∃ n25 : Int, (w10.cell? ((⟨w.heap.size, 0, none⟩ : Addr).add 1) = some (.int .i64 n25)) ∧
 (bsplit (decide ((n23 : Int) < (IntKind.i64.wrap (n24 + n25))))
 (post (true) w10)
 (next7 (x5.1, (IntKind.i64.wrap (x5.2 + 1))) w10))))))))))
 (next7 (x5.1, (IntKind.i64.wrap (x5.2 + 1))) w10)))))))))))))))
 (post (false) w6))))))))))
theorem scarpref11_Set_Meets_go {w : World} {a0 : Option Addr} {a1c0 : Int} {a1c1 : Int} {post : RT [.cell (.bool)] → World → Prop} (h : f_scarpref11_Set_Meets a0 a1c0 a1c1 w post) : c_scarpref11_Set_Meets a0 a1c0 a1c1 w post :=
 calls_of_vc tab_ok Tryz.func170 (by kernel_rfl) (Eq.mpr (by kernel_rfl) h)
end Go.Proofs.YtbolgpjcmchfoaaGreat
