/- Readable conditions of functions, each tied to its own code by the kernel. -/
import Derived.Test.YtbolgpjcmchfoaaGreatTab
namespace Go.Proofs.YtbolgpjcmchfoaaGreat
open Go Go.Vc
set_option linter.unusedVariables false
/-- scarp/scarplaw23.TxnPrunes; loop over (t4 : Bool, t9 : Int, t10 : Int); loop over (t11 : SV, t12 : Int); loop over (t4 : Bool, t18 : Int) -/
def f_scarplaw23_TxnPrunes (a0 : SV) (a1c0 : Int) (a1c1 : Int) (w : World) (post : Bool → World → Prop) : Prop :=
  (withW (w.alloc (.cells #[.int .i64 a1c0, .int .i64 a1c1] 56)) fun w1 =>
   (c_scarplaw23_small a0 w1 fun (x2 : Bool) w3 =>
    (bsplit (!x2)
     ((c_scarplaw23_awake  w3 fun (x4 : Bool) w5 =>
       post (x4) w5))
     ((c_txn_New 20 0 w3 fun (x6 : (Option Addr) × Int) w7 =>
       (c_scarpref23_New 20 0 w7 fun (x8 : (Option Addr) × Int) w9 =>
        (bsplit (!decide ((x6.2 : Int) = 0))
         (post (false) w9)
         ((bsplit ((x6.1).isNone)
           (post (false) w9)
           ((loopR (α := Bool × Int × Int) (false, 0, 0) w9 fun x10 w11 next12 =>
             (bsplit (decide ((x10.2.2 : Int) < ((a0.n : Nat) : Int)))
              ((0 ≤ (x10.2.2 : Int) ∧ (x10.2.2 : Int) < ((a0.n : Nat) : Int) ∧
                (onP a0.a fun p13 =>
                 (∃ g14 : Int × Int × Int × Int × SV × Int, (w11.cell? (p13.add ((x10.2.2 : Int).toNat * 6)) = some (.int .i64 g14.1) ∧ w11.cell? ((p13.add ((x10.2.2 : Int).toNat * 6)).add 1) = some (.int .i64 g14.2.1) ∧ w11.cell? ((p13.add ((x10.2.2 : Int).toNat * 6)).add 2) = some (.int .i64 g14.2.2.1) ∧ w11.cell? ((p13.add ((x10.2.2 : Int).toNat * 6)).add 3) = some (.int .i64 g14.2.2.2.1) ∧ w11.cell? ((p13.add ((x10.2.2 : Int).toNat * 6)).add 4) = some (.slice g14.2.2.2.2.1.a g14.2.2.2.2.1.n g14.2.2.2.2.1.c) ∧ w11.cell? ((p13.add ((x10.2.2 : Int).toNat * 6)).add 5) = some (.int .i64 g14.2.2.2.2.2)) ∧
                  (c_scarplaw23_does x6.1 x8.1 g14.1 g14.2.1 g14.2.2.1 g14.2.2.2.1 g14.2.2.2.2.1 g14.2.2.2.2.2 w11 fun (x15 : Bool) w16 =>
                   (bsplit (!x15)
                    (post (false) w16)
                    ((0 ≤ (x10.2.2 : Int) ∧ (x10.2.2 : Int) < ((a0.n : Nat) : Int) ∧
                      (onP a0.a fun p17 =>
                       (∃ n18 : Int, (w16.cell? (p17.add ((x10.2.2 : Int).toNat * 6)) = some (.int .i64 n18)) ∧
                        (bsplit (decide ((n18 : Int) = 1))
                         ((withI (IntKind.i64.wrap (x10.2.1 + 1)) fun i19 =>
                           (withI (IntKind.i64.wrap (x10.2.2 + 1)) fun i20 =>
                            next12 (x10.1, i19, i20) w16)))
                         ((withI (IntKind.i64.wrap (x10.2.2 + 1)) fun i21 =>
                           next12 (x10.1, x10.2.1, i21) w16)))))))))))))
              ((loopR (α := SV × Int) (⟨none, 0, 0⟩, 1) w11 fun x22 w23 next24 =>
                (bsplit (decide ((x22.2 : Int) ≤ x10.2.1))
                 ((∃ g25 : Int × Int, (w23.cell? (⟨w.heap.size, 0, none⟩ : Addr) = some (.int .i64 g25.1) ∧ w23.cell? ((⟨w.heap.size, 0, none⟩ : Addr).add 1) = some (.int .i64 g25.2)) ∧
                   (c_txn_Manager_Read x6.1 x22.2 g25.1 g25.2 w23 fun (x26 : SV × Int) w27 =>
                    (withW (w27.alloc (.cells #[.slice x26.1.a x26.1.n x26.1.c] 30)) fun w28 =>
                     (appendR x22.1 (⟨(some (⟨w27.heap.size, 0, none⟩ : Addr)), 1, 1⟩) 1 24 [.slice none 0 0] 30 w28 fun (s29 : SV) w30 =>
                      next24 (⟨s29.a, s29.n, s29.c⟩, (IntKind.i64.wrap (x22.2 + 1))) w30)))))
                 ((c_txn_Manager_Dump x6.1 w23 fun (x31 : SV) w32 =>
                   (c_txn_Manager_Versions x6.1 w32 fun (x33 : Int) w34 =>
                    (c_txn_Manager_Prune x6.1 w34 fun (x35 : Int) w36 =>
                     (loopR (α := Bool × Int) (x10.1, 1) w36 fun x37 w38 next39 =>
                      (bsplit (decide ((x37.2 : Int) ≤ x10.2.1))
                       ((∃ g40 : Int × Int, (w38.cell? (⟨w.heap.size, 0, none⟩ : Addr) = some (.int .i64 g40.1) ∧ w38.cell? ((⟨w.heap.size, 0, none⟩ : Addr).add 1) = some (.int .i64 g40.2)) ∧
                         (c_txn_Manager_Read x6.1 x37.2 g40.1 g40.2 w38 fun (x41 : SV × Int) w42 =>
                          (0 ≤ ((IntKind.i64.wrap (x37.2 - 1)) : Int) ∧ ((IntKind.i64.wrap (x37.2 - 1)) : Int) < ((x22.1.n : Nat) : Int) ∧
                           (onP x22.1.a fun p43 =>
                            (∃ s44 : SV, (w42.cell? (p43.add (((IntKind.i64.wrap (x37.2 - 1)) : Int).toNat * 1)) = some (.slice s44.a s44.n s44.c)) ∧
                             (c_scarpalike_Bytes x41.1 s44 w42 fun (x45 : Bool) w46 =>
                              (bsplit (!x45)
                               (post (false) w46)
                               (next39 (x37.1, (IntKind.i64.wrap (x37.2 + 1))) w46)))))))))
                       ((c_txn_Manager_Versions x6.1 w38 fun (x47 : Int) w48 =>
                         (bsplit (decide ((x47 : Int) = (IntKind.i64.wrap (x33 - x35))))
                          ((c_txn_Manager_Prune x6.1 w48 fun (x49 : Int) w50 =>
                            (bsplit (decide ((x49 : Int) = 0))
                             ((c_txn_Manager_Dump x6.1 w50 fun (x51 : SV) w52 =>
                               (c_scarpref11_SamePuts x51 x31 w52 fun (x53 : Bool) w54 =>
                                (bsplit x53
                                 ((c_scarplaw23_awake  w54 fun (x55 : Bool) w56 =>
                                   post (x55) w56))
                                 (post (false) w54)))))
                             (post (false) w50))))
                          (post (false) w48)))))))))))))))))))))))))
theorem scarplaw23_TxnPrunes_vc (a0 : SV) (a1c0 : Int) (a1c1 : Int) (w : World) (post : RT [.cell (.bool)] → World → Prop) : vcF Tryz.prog tab Tryz.f14 [.cell (.bool)] [.slice a0.a a0.n a0.c, .agg #[.int .i64 a1c0, .int .i64 a1c1]] w post = f_scarplaw23_TxnPrunes a0 a1c0 a1c1 w post := by kernel_rfl
theorem scarplaw23_TxnPrunes_ok : okFn Tryz.f14 2 = true := by kernel_rfl
theorem scarplaw23_TxnPrunes_go {w : World} {a0 : SV} {a1c0 : Int} {a1c1 : Int} {post : RT [.cell (.bool)] → World → Prop} (h : f_scarplaw23_TxnPrunes a0 a1c0 a1c1 w post) : c_scarplaw23_TxnPrunes a0 a1c0 a1c1 w post :=
    calls_of_vc tab_ok Tryz.func14 (rs := [.cell (.bool)]) (av := [.slice a0.a a0.n a0.c, .agg #[.int .i64 a1c0, .int .i64 a1c1]]) scarplaw23_TxnPrunes_ok (Eq.mpr (scarplaw23_TxnPrunes_vc a0 a1c0 a1c1 w post) h)
end Go.Proofs.YtbolgpjcmchfoaaGreat
