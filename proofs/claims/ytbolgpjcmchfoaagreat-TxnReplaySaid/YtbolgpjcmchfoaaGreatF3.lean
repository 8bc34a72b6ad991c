/- Readable conditions of functions, each tied to its own code by the kernel. -/
import Derived.Test.YtbolgpjcmchfoaaGreatTab
namespace Go.Proofs.YtbolgpjcmchfoaaGreat
open Go Go.Vc
set_option linter.unusedVariables false
/-- scarp/scarpref11.SamePuts; loop over (t4 : Bool, i : Int) -/
def f_scarpref11_SamePuts (a0 : SV) (a1 : SV) (w : World) (post : Bool → World → Prop) : Prop :=
 (bsplit (!decide ((((a0.n : Nat) : Int) : Int) = ((a1.n : Nat) : Int)))
 (post (false) w)
 ((loopR (α := Bool × Int) (false, 0) w fun x1 w2 next3 =>
 (bsplit (decide ((x1.2 : Int) < ((a0.n : Nat) : Int)))
 ((withW w2.drew fun w4 =>
 (0 ≤ (x1.2 : Int) ∧ (x1.2 : Int) < ((a0.n : Nat) : Int) ∧
 (onP a0.a fun p5 =>
 (∃ n6 : Int, (w4.cell? (p5.add ((x1.2 : Int).toNat * 2)) = some (.int .i64 n6)) ∧
 (0 ≤ (x1.2 : Int) ∧ (x1.2 : Int) < ((a1.n : Nat) : Int) ∧
 (onP a1.a fun p7 =>
 (∃ n8 : Int, (w4.cell? (p7.add ((x1.2 : Int).toNat * 2)) = some (.int .i64 n8)) ∧
 (bsplit (!decide ((n6 : Int) = n8))
 (post (false) w4)
 ((0 ≤ (x1.2 : Int) ∧ (x1.2 : Int) < ((a0.n : Nat) : Int) ∧
 (onP a0.a fun p9 =>
 (∃ s10 : SV, (w4.cell? ((p9.add ((x1.2 : Int).toNat * 2)).add 1) = some (.slice s10.a s10.n s10.c)) ∧
 (∃ l11 : List UInt8, l11.length = s10.n ∧ (∀ a12, s10.a = some a12 → cellsAt w4 a12 0 (bytesOf l11)) ∧ (s10.a = none → l11 = []) ∧
 (0 ≤ (x1.2 : Int) ∧ (x1.2 : Int) < ((a1.n : Nat) : Int) ∧
 (onP a1.a fun p13 =>
 (∃ s14 : SV, (w4.cell? ((p13.add ((x1.2 : Int).toNat * 2)).add 1) = some (.slice s14.a s14.n s14.c)) ∧
 (∃ l15 : List UInt8, l15.length = s14.n ∧ (∀ a16, s14.a = some a16 → cellsAt w4 a16 0 (bytesOf l15)) ∧ (s14.a = none → l15 = []) ∧
 (bsplit (!((⟨l11.toArray⟩ : ByteArray).toList == (⟨l15.toArray⟩ : ByteArray).toList))
 (post (false) w4)
 (next3 (x1.1, (IntKind.i64.wrap (x1.2 + 1))) w4))))))))))))))))))))
 (post (true) w2)))))
theorem scarpref11_SamePuts_go {w : World} {a0 : SV} {a1 : SV} {post : RT [.cell (.bool)] → World → Prop} (h : f_scarpref11_SamePuts a0 a1 w post) : c_scarpref11_SamePuts a0 a1 w post :=
 calls_of_vc tab_ok Tryz.func37 (by kernel_rfl) (Eq.mpr (by kernel_rfl) h)
/-- scarp/scarpref11.SameBatch; loop over (t4 : Bool, i : Int) -/
def f_scarpref11_SameBatch (a0c0 : Int) (a0c1 : SV) (a1c0 : Int) (a1c1 : SV) (w : World) (post : Bool → World → Prop) : Prop :=
 (withW (w.alloc (.cells #[.int .i64 a0c0, .slice a0c1.a a0c1.n a0c1.c] 42)) fun w1 =>
 (withW (w1.alloc (.cells #[.int .i64 a1c0, .slice a1c1.a a1c1.n a1c1.c] 42)) fun w2 =>
 (∃ n3 : Int, (w2.cell? (⟨w.heap.size, 0, none⟩ : Addr) = some (.int .i64 n3)) ∧
 (∃ n4 : Int, (w2.cell? (⟨w1.heap.size, 0, none⟩ : Addr) = some (.int .i64 n4)) ∧
 (bsplit (!decide ((n3 : Int) = n4))
 (post (false) w2)
 ((∃ s5 : SV, (w2.cell? ((⟨w.heap.size, 0, none⟩ : Addr).add 1) = some (.slice s5.a s5.n s5.c)) ∧
 (∃ s6 : SV, (w2.cell? ((⟨w1.heap.size, 0, none⟩ : Addr).add 1) = some (.slice s6.a s6.n s6.c)) ∧
 (bsplit (!decide ((((s5.n : Nat) : Int) : Int) = ((s6.n : Nat) : Int)))
 (post (false) w2)
 ((loopR (α := Bool × Int) (false, 0) w2 fun x7 w8 next9 =>
 (∃ s10 : SV, (w8.cell? ((⟨w.heap.size, 0, none⟩ : Addr).add 1) = some (.slice s10.a s10.n s10.c)) ∧
 (bsplit (decide ((x7.2 : Int) < ((s10.n : Nat) : Int)))
 ((withW w8.drew fun w12 =>
 (∃ S11 : World → Prop, S11 w12 ∧
 (∃ s13 : SV, ((∀ w14, S11 w14 → w14.cell? ((⟨w.heap.size, 0, none⟩ : Addr).add 1) = some (.slice s13.a s13.n s13.c))) ∧
 (0 ≤ (x7.2 : Int) ∧ (x7.2 : Int) < ((s13.n : Nat) : Int) ∧
 (onP s13.a fun p15 =>
 (∃ n16 : Int, ((∀ w17, S11 w17 → w17.cell? (p15.add ((x7.2 : Int).toNat * 2)) = some (.int .i64 n16))) ∧
 (∃ s18 : SV, ((∀ w19, S11 w19 → w19.cell? ((⟨w1.heap.size, 0, none⟩ : Addr).add 1) = some (.slice s18.a s18.n s18.c))) ∧
 (0 ≤ (x7.2 : Int) ∧ (x7.2 : Int) < ((s18.n : Nat) : Int) ∧
 (onP s18.a fun p20 =>
 (∃ n21 : Int, ((∀ w22, S11 w22 → w22.cell? (p20.add ((x7.2 : Int).toNat * 2)) = some (.int .i64 n21))) ∧
 (bsplit (!decide ((n16 : Int) = n21))
 (post (false) w12)
 ((∃ s23 : SV, ((∀ w24, S11 w24 → w24.cell? ((⟨w.heap.size, 0, none⟩ : Addr).add 1) = some (.slice s23.a s23.n s23.c))) ∧
 (0 ≤ (x7.2 : Int) ∧ (x7.2 : Int) < ((s23.n : Nat) : Int) ∧
 (onP s23.a fun p25 =>
 (∃ s26 : SV, ((∀ w27, S11 w27 → w27.cell? ((p25.add ((x7.2 : Int).toNat * 2)).add 1) = some (.slice s26.a s26.n s26.c))) ∧
 (∃ s28 : SV, ((∀ w29, S11 w29 → w29.cell? ((⟨w1.heap.size, 0, none⟩ : Addr).add 1) = some (.slice s28.a s28.n s28.c))) ∧
 (0 ≤ (x7.2 : Int) ∧ (x7.2 : Int) < ((s28.n : Nat) : Int) ∧
 (onP s28.a fun p30 =>
 (∃ s31 : SV, ((∀ w32, S11 w32 → w32.cell? ((p30.add ((x7.2 : Int).toNat * 2)).add 1) = some (.slice s31.a s31.n s31.c))) ∧
 (c_scarpref11_SamePuts s26 s31 w12 fun (x33 : Bool) w34 =>
 (S11 w34 ∧
 (bsplit (!x33)
 (post (false) w34)
 (next9 (x7.1, (IntKind.i64.wrap (x7.2 + 1))) w34)))))))))))))))))))))))))
 (post (true) w8))))))))))))))
theorem scarpref11_SameBatch_go {w : World} {a0c0 : Int} {a0c1 : SV} {a1c0 : Int} {a1c1 : SV} {post : RT [.cell (.bool)] → World → Prop} (h : f_scarpref11_SameBatch a0c0 a0c1 a1c0 a1c1 w post) : c_scarpref11_SameBatch a0c0 a0c1 a1c0 a1c1 w post :=
 calls_of_vc tab_ok Tryz.func85 (by kernel_rfl) (Eq.mpr (by kernel_rfl) h)
end Go.Proofs.YtbolgpjcmchfoaaGreat
