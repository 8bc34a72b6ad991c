/- Readable conditions of functions, each tied to its own code by the kernel. -/
import Derived.Test.YtbolgpjcmchfoaaGreatTab
namespace Go.Proofs.YtbolgpjcmchfoaaGreat
open Go Go.Vc
set_option linter.unusedVariables false
/-- scarp/scarpref11.SamePuts; loop over (t4 : Bool, i : Int) -/
def f_scarpref11_SamePuts (a0 : SV) (a1 : SV) (w : World) (post : Bool → World → Prop) : Prop :=
 (bsplit (!decide ((((a0.n : Nat) : Int) : Int) = ((a1.n : Nat) : Int)))
 (post (false) w)
 ((loopR (α := Bool × Int) (false, 0) w fun x1 w2 next3 =>
 (bsplit (decide ((x1.2 : Int) < ((a0.n : Nat) : Int)))
 ((withW w2.drew fun w4 =>
 (0 ≤ (x1.2 : Int) ∧ (x1.2 : Int) < ((a0.n : Nat) : Int) ∧
 (onP a0.a fun p5 =>
 (∃ n6 : Int, (w4.cell? (p5.add ((x1.2 : Int).toNat * 2)) = some (.int .i64 n6)) ∧
 (0 ≤ (x1.2 : Int) ∧ (x1.2 : Int) < ((a1.n : Nat) : Int) ∧
 (onP a1.a fun p7 =>
 (∃ n8 : Int, (w4.cell? (p7.add ((x1.2 : Int).toNat * 2)) = some (.int .i64 n8)) ∧
 (bsplit (!decide ((n6 : Int) = n8))
 (post (false) w4)
 ((0 ≤ (x1.2 : Int) ∧ (x1.2 : Int) < ((a0.n : Nat) : Int) ∧
 (onP a0.a fun p9 =>
 (∃ s10 : SV, (w4.cell? ((p9.add ((x1.2 : Int).toNat * 2)).add 1) = some (.slice s10.a s10.n s10.c)) ∧
 (∃ l11 : List UInt8, l11.length = s10.n ∧ (∀ a12, s10.a = some a12 → cellsAt w4 a12 0 (bytesOf l11)) ∧ (s10.a = none → l11 = []) ∧
 (0 ≤ (x1.2 : Int) ∧ (x1.2 : Int) < ((a1.n : Nat) : Int) ∧
 (onP a1.a fun p13 =>
 (∃ s14 : SV, (w4.cell? ((p13.add ((x1.2 : Int).toNat * 2)).add 1) = some (.slice s14.a s14.n s14.c)) ∧
 (∃ l15 : List UInt8, l15.length = s14.n ∧ (∀ a16, s14.a = some a16 → cellsAt w4 a16 0 (bytesOf l15)) ∧ (s14.a = none → l15 = []) ∧
 (bsplit (!((⟨l11.toArray⟩ : ByteArray).toList == (⟨l15.toArray⟩ : ByteArray).toList))
 (post (false) w4)
 (next3 (x1.1, (IntKind.i64.wrap (x1.2 + 1))) w4))))))))))))))))))))
 (post (true) w2)))))
theorem scarpref11_SamePuts_go {w : World} {a0 : SV} {a1 : SV} {post : RT [.cell (.bool)] → World → Prop} (h : f_scarpref11_SamePuts a0 a1 w post) : c_scarpref11_SamePuts a0 a1 w post :=
 calls_of_vc tab_ok Tryz.func37 (by kernel_rfl) (Eq.mpr (by kernel_rfl) h)
/-- scarp/scarpalike.SameHistory; loop over (t4 : Bool, t5 : Int); loop over (t4 : Bool, t6 : Int) -/
def f_scarpalike_SameHistory (a0c0 : Int) (a0c1 : Int) (a0c2 : Int) (a0c3 : Int) (a0c4 : Int) (a0c5 : SV) (a0c6 : SV) (a1c0 : Int) (a1c1 : Int) (a1c2 : Int) (a1c3 : Int) (a1c4 : Int) (a1c5 : SV) (a1c6 : SV) (w : World) (post : Bool → World → Prop) : Prop :=
 (withW (w.alloc (.cells #[.int .i64 a0c0, .int .i64 a0c1, .int .i64 a0c2, .int .i64 a0c3, .int .i64 a0c4, .slice a0c5.a a0c5.n a0c5.c, .slice a0c6.a a0c6.n a0c6.c] 73)) fun w1 =>
 (withW (w1.alloc (.cells #[.int .i64 a1c0, .int .i64 a1c1, .int .i64 a1c2, .int .i64 a1c3, .int .i64 a1c4, .slice a1c5.a a1c5.n a1c5.c, .slice a1c6.a a1c6.n a1c6.c] 73)) fun w2 =>
 (∃ n3 : Int, (w2.cell? (⟨w.heap.size, 0, none⟩ : Addr) = some (.int .i64 n3)) ∧
 (∃ n4 : Int, (w2.cell? (⟨w1.heap.size, 0, none⟩ : Addr) = some (.int .i64 n4)) ∧
 (bsplit (!decide ((n3 : Int) = n4))
 (post (false) w2)
 ((∃ n5 : Int, (w2.cell? ((⟨w.heap.size, 0, none⟩ : Addr).add 1) = some (.int .i64 n5)) ∧
 (∃ n6 : Int, (w2.cell? ((⟨w1.heap.size, 0, none⟩ : Addr).add 1) = some (.int .i64 n6)) ∧
 (bsplit (!decide ((n5 : Int) = n6))
 (post (false) w2)
 ((∃ n7 : Int, (w2.cell? ((⟨w.heap.size, 0, none⟩ : Addr).add 2) = some (.int .i64 n7)) ∧
 (∃ n8 : Int, (w2.cell? ((⟨w1.heap.size, 0, none⟩ : Addr).add 2) = some (.int .i64 n8)) ∧
 (bsplit (!decide ((n7 : Int) = n8))
 (post (false) w2)
 ((∃ n9 : Int, (w2.cell? ((⟨w.heap.size, 0, none⟩ : Addr).add 3) = some (.int .i64 n9)) ∧
 (∃ n10 : Int, (w2.cell? ((⟨w1.heap.size, 0, none⟩ : Addr).add 3) = some (.int .i64 n10)) ∧
 (bsplit (!decide ((n9 : Int) = n10))
 (post (false) w2)
 ((∃ n11 : Int, (w2.cell? ((⟨w.heap.size, 0, none⟩ : Addr).add 4) = some (.int .i64 n11)) ∧
 (∃ n12 : Int, (w2.cell? ((⟨w1.heap.size, 0, none⟩ : Addr).add 4) = some (.int .i64 n12)) ∧
 (bsplit (!decide ((n11 : Int) = n12))
 (post (false) w2)
 ((∃ s13 : SV, (w2.cell? ((⟨w.heap.size, 0, none⟩ : Addr).add 5) = some (.slice s13.a s13.n s13.c)) ∧
 (∃ s14 : SV, (w2.cell? ((⟨w1.heap.size, 0, none⟩ : Addr).add 5) = some (.slice s14.a s14.n s14.c)) ∧
 (bsplit (!decide ((((s13.n : Nat) : Int) : Int) = ((s14.n : Nat) : Int)))
 (post (false) w2)
 ((∃ s15 : SV, (w2.cell? ((⟨w.heap.size, 0, none⟩ : Addr).add 6) = some (.slice s15.a s15.n s15.c)) ∧
 (∃ s16 : SV, (w2.cell? ((⟨w1.heap.size, 0, none⟩ : Addr).add 6) = some (.slice s16.a s16.n s16.c)) ∧
 (bsplit (!decide ((((s15.n : Nat) : Int) : Int) = ((s16.n : Nat) : Int)))
 (post (false) w2)
 ((loopR (α := Bool × Int) (false, 0) w2 fun x17 w18 next19 =>
 (∃ s20 : SV, (w18.cell? ((⟨w.heap.size, 0, none⟩ : Addr).add 5) = some (.slice s20.a s20.n s20.c)) ∧
 (bsplit (decide ((x17.2 : Int) < ((s20.n : Nat) : Int)))
 ((withW w18.drew fun w22 =>
 (∃ S21 : World → Prop, S21 w22 ∧
 (∃ s23 : SV, ((∀ w24, S21 w24 → w24.cell? ((⟨w.heap.size, 0, none⟩ : Addr).add 5) = some (.slice s23.a s23.n s23.c))) ∧
 (0 ≤ (x17.2 : Int) ∧ (x17.2 : Int) < ((s23.n : Nat) : Int) ∧
 (onP s23.a fun p25 =>
 (∃ n26 : Int, ((∀ w27, S21 w27 → w27.cell? (p25.add ((x17.2 : Int).toNat * 3)) = some (.int .i64 n26))) ∧
 (∃ s28 : SV, ((∀ w29, S21 w29 → w29.cell? ((⟨w1.heap.size, 0, none⟩ : Addr).add 5) = some (.slice s28.a s28.n s28.c))) ∧
 (0 ≤ (x17.2 : Int) ∧ (x17.2 : Int) < ((s28.n : Nat) : Int) ∧
 (onP s28.a fun p30 =>
 (∃ n31 : Int, ((∀ w32, S21 w32 → w32.cell? (p30.add ((x17.2 : Int).toNat * 3)) = some (.int .i64 n31))) ∧
 (bsplit (!decide ((n26 : Int) = n31))
 (post (false) w22)
 ((∃ s33 : SV, ((∀ w34, S21 w34 → w34.cell? ((⟨w.heap.size, 0, none⟩ : Addr).add 5) = some (.slice s33.a s33.n s33.c))) ∧
 (0 ≤ (x17.2 : Int) ∧ (x17.2 : Int) < ((s33.n : Nat) : Int) ∧
 (onP s33.a fun p35 =>
 (∃ b36 : Bool, ((∀ w37, S21 w37 → w37.cell? ((p35.add ((x17.2 : Int).toNat * 3)).add 2) = some (.bool b36))) ∧
 (∃ s38 : SV, ((∀ w39, S21 w39 → w39.cell? ((⟨w1.heap.size, 0, none⟩ : Addr).add 5) = some (.slice s38.a s38.n s38.c))) ∧
 (0 ≤ (x17.2 : Int) ∧ (x17.2 : Int) < ((s38.n : Nat) : Int) ∧
 (onP s38.a fun p40 =>
 (∃ b41 : Bool, ((∀ w42, S21 w42 → w42.cell? ((p40.add ((x17.2 : Int).toNat * 3)).add 2) = some (.bool b41))) ∧
 (bsplit (!(b36 == b41))
 (post (false) w22)
 ((∃ s43 : SV, ((∀ w44, S21 w44 → w44.cell? ((⟨w.heap.size, 0, none⟩ : Addr).add 5) = some (.slice s43.a s43.n s43.c))) ∧
 (0 ≤ (x17.2 : Int) ∧ (x17.2 : Int) < ((s43.n : Nat) : Int) ∧
 (onP s43.a fun p45 =>
 (∃ s46 : SV, ((∀ w47, S21 w47 → w47.cell? ((p45.add ((x17.2 : Int).toNat * 3)).add 1) = some (.slice s46.a s46.n s46.c))) ∧
 (∃ s48 : SV, ((∀ w49, S21 w49 → w49.cell? ((⟨w1.heap.size, 0, none⟩ : Addr).add 5) = some (.slice s48.a s48.n s48.c))) ∧
 (0 ≤ (x17.2 : Int) ∧ (x17.2 : Int) < ((s48.n : Nat) : Int) ∧
 (onP s48.a fun p50 =>
 (∃ s51 : SV, ((∀ w52, S21 w52 → w52.cell? ((p50.add ((x17.2 : Int).toNat * 3)).add 1) = some (.slice s51.a s51.n s51.c))) ∧
 (c_scarpalike_Bytes s46 s51 w22 fun (x53 : Bool) w54 =>
 (S21 w54 ∧
 (bsplit (!x53)
 (post (false) w54)
 (next19 (x17.1, (IntKind.i64.wrap (x17.2 + 1))) w54)))))))))))))))))))))))))))))))))))
 ((loopR (α := Bool × Int) (x17.1, 0) w18 fun x55 w56 next57 =>
 (∃ s58 : SV, (w56.cell? ((⟨w.heap.size, 0, none⟩ : Addr).add 6) = some (.slice s58.a s58.n s58.c)) ∧
 (bsplit (decide ((x55.2 : Int) < ((s58.n : Nat) : Int)))
 ((withW w56.drew fun w60 =>
 (∃ S59 : World → Prop, S59 w60 ∧
 (∃ s61 : SV, ((∀ w62, S59 w62 → w62.cell? ((⟨w.heap.size, 0, none⟩ : Addr).add 6) = some (.slice s61.a s61.n s61.c))) ∧
 (0 ≤ (x55.2 : Int) ∧ (x55.2 : Int) < ((s61.n : Nat) : Int) ∧
 (onP s61.a fun p63 =>
 (∃ n64 : Int, ((∀ w65, S59 w65 → w65.cell? (p63.add ((x55.2 : Int).toNat * 2)) = some (.int .i64 n64))) ∧
 (∃ s66 : SV, ((∀ w67, S59 w67 → w67.cell? ((⟨w1.heap.size, 0, none⟩ : Addr).add 6) = some (.slice s66.a s66.n s66.c))) ∧
 (0 ≤ (x55.2 : Int) ∧ (x55.2 : Int) < ((s66.n : Nat) : Int) ∧
 (onP s66.a fun p68 =>
 (∃ n69 : Int, ((∀ w70, S59 w70 → w70.cell? (p68.add ((x55.2 : Int).toNat * 2)) = some (.int .i64 n69))) ∧
 (bsplit (!decide ((n64 : Int) = n69))
 (post (false) w60)
 ((∃ s71 : SV, ((∀ w72, S59 w72 → w72.cell? ((⟨w.heap.size, 0, none⟩ : Addr).add 6) = some (.slice s71.a s71.n s71.c))) ∧
 (0 ≤ (x55.2 : Int) ∧ (x55.2 : Int) < ((s71.n : Nat) : Int) ∧
 (onP s71.a fun p73 =>
 (∃ s74 : SV, ((∀ w75, S59 w75 → w75.cell? ((p73.add ((x55.2 : Int).toNat * 2)).add 1) = some (.slice s74.a s74.n s74.c))) ∧
 (∃ s76 : SV, ((∀ w77, S59 w77 → w77.cell? ((⟨w1.heap.size, 0, none⟩ : Addr).add 6) = some (.slice s76.a s76.n s76.c))) ∧
 (0 ≤ (x55.2 : Int) ∧ (x55.2 : Int) < ((s76.n : Nat) : Int) ∧
 (onP s76.a fun p78 =>
 (∃ s79 : SV, ((∀ w80, S59 w80 → w80.cell? ((p78.add ((x55.2 : Int).toNat * 2)).add 1) = some (.slice s79.a s79.n s79.c))) ∧
 (c_scarpalike_Bytes s74 s79 w60 fun (x81 : Bool) w82 =>
 (S59 w82 ∧
 (bsplit (!x81)
 (post (false) w82)
 (next57 (x55.1, (IntKind.i64.wrap (x55.2 + 1))) w82)))))))))))))))))))))))))
 (post (true) w56))))))))))))))))))))))))))))))))))))))
theorem scarpalike_SameHistory_go {w : World} {a0c0 : Int} {a0c1 : Int} {a0c2 : Int} {a0c3 : Int} {a0c4 : Int} {a0c5 : SV} {a0c6 : SV} {a1c0 : Int} {a1c1 : Int} {a1c2 : Int} {a1c3 : Int} {a1c4 : Int} {a1c5 : SV} {a1c6 : SV} {post : RT [.cell (.bool)] → World → Prop} (h : f_scarpalike_SameHistory a0c0 a0c1 a0c2 a0c3 a0c4 a0c5 a0c6 a1c0 a1c1 a1c2 a1c3 a1c4 a1c5 a1c6 w post) : c_scarpalike_SameHistory a0c0 a0c1 a0c2 a0c3 a0c4 a0c5 a0c6 a1c0 a1c1 a1c2 a1c3 a1c4 a1c5 a1c6 w post :=
 calls_of_vc tab_ok Tryz.func50 (by kernel_rfl) (Eq.mpr (by kernel_rfl) h)
/-- scarp/scarpref11.SameBatch; loop over (t4 : Bool, i : Int) -/
def f_scarpref11_SameBatch (a0c0 : Int) (a0c1 : SV) (a1c0 : Int) (a1c1 : SV) (w : World) (post : Bool → World → Prop) : Prop :=
 (withW (w.alloc (.cells #[.int .i64 a0c0, .slice a0c1.a a0c1.n a0c1.c] 42)) fun w1 =>
 (withW (w1.alloc (.cells #[.int .i64 a1c0, .slice a1c1.a a1c1.n a1c1.c] 42)) fun w2 =>
 (∃ n3 : Int, (w2.cell? (⟨w.heap.size, 0, none⟩ : Addr) = some (.int .i64 n3)) ∧
 (∃ n4 : Int, (w2.cell? (⟨w1.heap.size, 0, none⟩ : Addr) = some (.int .i64 n4)) ∧
 (bsplit (!decide ((n3 : Int) = n4))
 (post (false) w2)
 ((∃ s5 : SV, (w2.cell? ((⟨w.heap.size, 0, none⟩ : Addr).add 1) = some (.slice s5.a s5.n s5.c)) ∧
 (∃ s6 : SV, (w2.cell? ((⟨w1.heap.size, 0, none⟩ : Addr).add 1) = some (.slice s6.a s6.n s6.c)) ∧
 (bsplit (!decide ((((s5.n : Nat) : Int) : Int) = ((s6.n : Nat) : Int)))
 (post (false) w2)
 ((loopR (α := Bool × Int) (false, 0) w2 fun x7 w8 next9 =>
 (∃ s10 : SV, (w8.cell? ((⟨w.heap.size, 0, none⟩ : Addr).add 1) = some (.slice s10.a s10.n s10.c)) ∧
 (bsplit (decide ((x7.2 : Int) < ((s10.n : Nat) : Int)))
 ((withW w8.drew fun w12 =>
 (∃ S11 : World → Prop, S11 w12 ∧
 (∃ s13 : SV, ((∀ w14, S11 w14 → w14.cell? ((⟨w.heap.size, 0, none⟩ : Addr).add 1) = some (.slice s13.a s13.n s13.c))) ∧
 (0 ≤ (x7.2 : Int) ∧ (x7.2 : Int) < ((s13.n : Nat) : Int) ∧
 (onP s13.a fun p15 =>
 (∃ n16 : Int, ((∀ w17, S11 w17 → w17.cell? (p15.add ((x7.2 : Int).toNat * 2)) = some (.int .i64 n16))) ∧
 (∃ s18 : SV, ((∀ w19, S11 w19 → w19.cell? ((⟨w1.heap.size, 0, none⟩ : Addr).add 1) = some (.slice s18.a s18.n s18.c))) ∧
 (0 ≤ (x7.2 : Int) ∧ (x7.2 : Int) < ((s18.n : Nat) : Int) ∧
 (onP s18.a fun p20 =>
 (∃ n21 : Int, ((∀ w22, S11 w22 → w22.cell? (p20.add ((x7.2 : Int).toNat * 2)) = some (.int .i64 n21))) ∧
 (bsplit (!decide ((n16 : Int) = n21))
 (post (false) w12)
 ((∃ s23 : SV, ((∀ w24, S11 w24 → w24.cell? ((⟨w.heap.size, 0, none⟩ : Addr).add 1) = some (.slice s23.a s23.n s23.c))) ∧
 (0 ≤ (x7.2 : Int) ∧ (x7.2 : Int) < ((s23.n : Nat) : Int) ∧
 (onP s23.a fun p25 =>
 (∃ s26 : SV, ((∀ w27, S11 w27 → w27.cell? ((p25.add ((x7.2 : Int).toNat * 2)).add 1) = some (.slice s26.a s26.n s26.c))) ∧
 (∃ s28 : SV, ((∀ w29, S11 w29 → w29.cell? ((⟨w1.heap.size, 0, none⟩ : Addr).add 1) = some (.slice s28.a s28.n s28.c))) ∧
 (0 ≤ (x7.2 : Int) ∧ (x7.2 : Int) < ((s28.n : Nat) : Int) ∧
 (onP s28.a fun p30 =>
 (∃ s31 : SV, ((∀ w32, S11 w32 → w32.cell? ((p30.add ((x7.2 : Int).toNat * 2)).add 1) = some (.slice s31.a s31.n s31.c))) ∧
 (c_scarpref11_SamePuts s26 s31 w12 fun (x33 : Bool) w34 =>
 (S11 w34 ∧
 (bsplit (!x33)
 (post (false) w34)
 (next9 (x7.1, (IntKind.i64.wrap (x7.2 + 1))) w34)))))))))))))))))))))))))
 (post (true) w8))))))))))))))
theorem scarpref11_SameBatch_go {w : World} {a0c0 : Int} {a0c1 : SV} {a1c0 : Int} {a1c1 : SV} {post : RT [.cell (.bool)] → World → Prop} (h : f_scarpref11_SameBatch a0c0 a0c1 a1c0 a1c1 w post) : c_scarpref11_SameBatch a0c0 a0c1 a1c0 a1c1 w post :=
 calls_of_vc tab_ok Tryz.func85 (by kernel_rfl) (Eq.mpr (by kernel_rfl) h)
end Go.Proofs.YtbolgpjcmchfoaaGreat
