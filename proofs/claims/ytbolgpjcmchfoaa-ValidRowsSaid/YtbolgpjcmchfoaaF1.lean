/- Readable conditions of functions, each tied to its own code by the kernel. -/
import Derived.Test.YtbolgpjcmchfoaaTab
namespace Go.Proofs.Ytbolgpjcmchfoaa
open Go Go.Vc
set_option linter.unusedVariables false
/-- scarp/scarplaw16.small -/
def f_scarplaw16_small (a0 : SV) (a1 : SV) (a2 : SV) (a3 : SV) (w : World) (post : Bool → World → Prop) : Prop :=
  (c_scarpalike_Txs a0 10000 w fun (x1 : Int) w2 =>
   (c_scarpalike_Txs a1 10000 w2 fun (x3 : Int) w4 =>
    (withW (w4.alloc (.cells #[.int .i64 x3] 3)) fun w5 =>
     (c_scarpalike_Sum x1 (⟨(some (⟨w4.heap.size, 0, none⟩ : Addr)), 1, 1⟩) w5 fun (x6 : Int) w7 =>
      (bsplit (decide ((x6 : Int) ≤ 10000))
       ((bsplit (decide ((((a2.n : Nat) : Int) : Int) ≤ 60))
         (post ((decide ((((a3.n : Nat) : Int) : Int) ≤ 60))) w7)
         (post (false) w7)))
       (post (false) w7))))))
theorem scarplaw16_small_vc (a0 : SV) (a1 : SV) (a2 : SV) (a3 : SV) (w : World) (post : RT [.cell (.bool)] → World → Prop) : vcF Try.prog tab Try.f7 [.cell (.bool)] [.slice a0.a a0.n a0.c, .slice a1.a a1.n a1.c, .slice a2.a a2.n a2.c, .slice a3.a a3.n a3.c] w post = f_scarplaw16_small a0 a1 a2 a3 w post := by kernel_rfl
theorem scarplaw16_small_ok : okFn Try.f7 4 = true := by kernel_rfl
theorem scarplaw16_small_go {w : World} {a0 : SV} {a1 : SV} {a2 : SV} {a3 : SV} {post : RT [.cell (.bool)] → World → Prop} (h : f_scarplaw16_small a0 a1 a2 a3 w post) : c_scarplaw16_small a0 a1 a2 a3 w post :=
    calls_of_vc tab_ok Try.func7 (rs := [.cell (.bool)]) (av := [.slice a0.a a0.n a0.c, .slice a1.a a1.n a1.c, .slice a2.a a2.n a2.c, .slice a3.a a3.n a3.c]) scarplaw16_small_ok (Eq.mpr (scarplaw16_small_vc a0 a1 a2 a3 w post) h)
/-- scarp/scarplaw16.awake -/
def f_scarplaw16_awake  (w : World) (post : Bool → World → Prop) : Prop :=
  (c_extmap_New 5 w fun (x1 : (Option Addr) × Int) w2 =>
   (bsplit (!decide ((x1.2 : Int) = 0))
    (post (false) w2)
    ((bsplit ((x1.1).isNone)
      (post (false) w2)
      ((c_scarpalike_Data 1 w2 fun (x3 : SV) w4 =>
        (withW (w4.alloc (.cells #[.int .i64 1, .slice x3.a x3.n x3.c] 53)) fun w5 =>
         (c_extmap_Map_Apply x1.1 3 (⟨(some (⟨w4.heap.size, 0, none⟩ : Addr)), 1, 1⟩) w5 fun (x6 : Int) w7 =>
          (bsplit (!decide ((x6 : Int) = 0))
           (post (false) w7)
           ((withW (w7.alloc (.cells #[.int .i64 1, .int .i64 1] 44)) fun w8 =>
             (c_scarplaw16_sets (⟨(some (⟨w7.heap.size, 0, none⟩ : Addr)), 1, 1⟩) w8 fun (x9 : (Option Addr) × (Option Addr) × Bool) w10 =>
              (withW (w10.alloc (.cells #[.int .i64 2, .int .i64 1] 44)) fun w11 =>
               (c_scarplaw16_sets (⟨(some (⟨w10.heap.size, 0, none⟩ : Addr)), 1, 1⟩) w11 fun (x12 : (Option Addr) × (Option Addr) × Bool) w13 =>
                (c_scarplaw16_sets (⟨none, 0, 0⟩) w13 fun (x14 : (Option Addr) × (Option Addr) × Bool) w15 =>
                 (bsplit x9.2.2
                  ((bsplit x12.2.2
                    ((bsplit x14.2.2
                      ((c_valid_Check x1.1 (⟨none, 0, 0⟩) 2 x9.1 x12.1 w15 fun (x16 : Int) w17 =>
                        (bsplit (decide ((x16 : Int) = 8))
                         ((c_valid_Check x1.1 (⟨none, 0, 0⟩) 3 x9.1 x12.1 w17 fun (x18 : Int) w19 =>
                           (bsplit (decide ((x18 : Int) = 0))
                            ((c_valid_Check x1.1 (⟨none, 0, 0⟩) 2 x9.1 x14.1 w19 fun (x20 : Int) w21 =>
                              post ((decide ((x20 : Int) = 0))) w21))
                            (post (false) w19))))
                         (post (false) w17))))
                      (post (false) w15)))
                    (post (false) w15)))
                  (post (false) w15)))))))))))))))))
theorem scarplaw16_awake_vc  (w : World) (post : RT [.cell (.bool)] → World → Prop) : vcF Try.prog tab Try.f8 [.cell (.bool)] [] w post = f_scarplaw16_awake  w post := by kernel_rfl
theorem scarplaw16_awake_ok : okFn Try.f8 0 = true := by kernel_rfl
theorem scarplaw16_awake_go {w : World}  {post : RT [.cell (.bool)] → World → Prop} (h : f_scarplaw16_awake  w post) : c_scarplaw16_awake  w post :=
    calls_of_vc tab_ok Try.func8 (rs := [.cell (.bool)]) (av := []) scarplaw16_awake_ok (Eq.mpr (scarplaw16_awake_vc  w post) h)
/-- scarp/extmap.New -/
def f_extmap_New (a0 : Int) (w : World) (post : ((Option Addr) × Int) → World → Prop) : Prop :=
  (bsplit (decide ((a0 : Int) < 1))
   (post (none, 1) w)
   ((bsplit (decide ((1048576 : Int) < a0))
     (post (none, 1) w)
     ((withW (w.alloc (.map #[] 0)) fun w1 =>
       (withW (w1.alloc (.cells #[.int .i64 a0, .map (some w.heap.size), .int .i64 0] 56)) fun w2 =>
        post ((some (⟨w1.heap.size, 0, none⟩ : Addr)), 0) w2))))))
theorem extmap_New_vc (a0 : Int) (w : World) (post : RT [.cell (.ptr), .cell (.int .i64)] → World → Prop) : vcF Try.prog tab Try.f9 [.cell (.ptr), .cell (.int .i64)] [.int .i64 a0] w post = f_extmap_New a0 w post := by kernel_rfl
theorem extmap_New_ok : okFn Try.f9 1 = true := by kernel_rfl
theorem extmap_New_go {w : World} {a0 : Int} {post : RT [.cell (.ptr), .cell (.int .i64)] → World → Prop} (h : f_extmap_New a0 w post) : c_extmap_New a0 w post :=
    calls_of_vc tab_ok Try.func9 (rs := [.cell (.ptr), .cell (.int .i64)]) (av := [.int .i64 a0]) extmap_New_ok (Eq.mpr (extmap_New_vc a0 w post) h)
/-- (*scarp/extmap.Map).Apply; loop over (t58 : Int) -/
def f_extmap_Map_Apply (a0 : Option Addr) (a1c0 : Int) (a1c1 : SV) (w : World) (post : Int → World → Prop) : Prop :=
  (withW (w.alloc (.cells #[.int .i64 a1c0, .slice a1c1.a a1c1.n a1c1.c] 33)) fun w1 =>
   (c_extmap_Map_gone a0 w1 fun (x2 : Bool) w3 =>
    (bsplit x2
     (post (1) w3)
     ((withW w3.drew fun w4 =>
       (∃ n5 : Int, (w4.cell? (⟨w.heap.size, 0, none⟩ : Addr) = some (.int .i64 n5)) ∧
        (onP a0 fun p6 =>
         (∃ n7 : Int, (w4.cell? (p6.add 2) = some (.int .i64 n7)) ∧
          (bsplit (decide ((n5 : Int) ≤ n7))
           (post (11) w4)
           ((∃ n8 : Int, (w4.cell? (⟨w.heap.size, 0, none⟩ : Addr) = some (.int .i64 n8)) ∧
             (bsplit (decide ((1099511627776 : Int) < n8))
              (post (11) w4)
              ((∃ s9 : SV, (w4.cell? ((⟨w.heap.size, 0, none⟩ : Addr).add 1) = some (.slice s9.a s9.n s9.c)) ∧
                (c_extmap_rise s9 w4 fun (x10 : Bool) w11 =>
                 (bsplit (!x10)
                  (post (1) w11)
                  ((∃ s12 : SV, (w11.cell? ((⟨w.heap.size, 0, none⟩ : Addr).add 1) = some (.slice s12.a s12.n s12.c)) ∧
                    (0 ≤ (0 : Int) ∧ (0 : Int) < ((s12.n : Nat) : Int) ∧
                     (onP s12.a fun p13 =>
                      (∃ n14 : Int, (w11.cell? (p13.add ((0 : Int).toNat * 2)) = some (.int .i64 n14)) ∧
                       (c_extmap_Map_block a0 n14 w11 fun (x15 : Bool) w16 =>
                        (bsplit (!x15)
                         (post (2) w16)
                         ((∃ s17 : SV, (w16.cell? ((⟨w.heap.size, 0, none⟩ : Addr).add 1) = some (.slice s17.a s17.n s17.c)) ∧
                           (∃ s18 : SV, (w16.cell? ((⟨w.heap.size, 0, none⟩ : Addr).add 1) = some (.slice s18.a s18.n s18.c)) ∧
                            (0 ≤ ((IntKind.i64.wrap (((s18.n : Nat) : Int) - 1)) : Int) ∧ ((IntKind.i64.wrap (((s18.n : Nat) : Int) - 1)) : Int) < ((s17.n : Nat) : Int) ∧
                             (onP s17.a fun p19 =>
                              (∃ n20 : Int, (w16.cell? (p19.add (((IntKind.i64.wrap (((s18.n : Nat) : Int) - 1)) : Int).toNat * 2)) = some (.int .i64 n20)) ∧
                               (c_extmap_Map_block a0 n20 w16 fun (x21 : Bool) w22 =>
                                (bsplit (!x21)
                                 (post (2) w22)
                                 ((∃ s23 : SV, (w22.cell? ((⟨w.heap.size, 0, none⟩ : Addr).add 1) = some (.slice s23.a s23.n s23.c)) ∧
                                   (c_slices_ContainsFunc_api_Put_api_Put_at_extmap_Map_Apply_1 s23 w22 fun (x24 : Bool) w25 =>
                                    (bsplit x24
                                     (post (3) w25)
                                     ((∃ s26 : SV, (w25.cell? ((⟨w.heap.size, 0, none⟩ : Addr).add 1) = some (.slice s26.a s26.n s26.c)) ∧
                                       (loopR (α := Int) (0) w25 fun x27 w28 next29 =>
                                        (bsplit (decide ((x27 : Int) < ((s26.n : Nat) : Int)))
                                        ((0 ≤ (x27 : Int) ∧ (x27 : Int) < ((s26.n : Nat) : Int) ∧
                                        (onP s26.a fun p30 =>
                                        (∃ g31 : Int × SV, (w28.cell? (p30.add ((x27 : Int).toNat * 2)) = some (.int .i64 g31.1) ∧ w28.cell? ((p30.add ((x27 : Int).toNat * 2)).add 1) = some (.slice g31.2.a g31.2.n g31.2.c)) ∧
                                        (withW (w28.alloc (.cells #[.int .i64 0, .slice none 0 0] 53)) fun w32 =>
                                        ((((∃ u, w32.cell? (⟨w28.heap.size, 0, none⟩ : Addr) = some u) ∧ w32.frozen? (⟨w28.heap.size, 0, none⟩ : Addr) = false) ∧ ((∃ u, w32.cell? ((⟨w28.heap.size, 0, none⟩ : Addr).add 1) = some u) ∧ w32.frozen? ((⟨w28.heap.size, 0, none⟩ : Addr).add 1) = false)) ∧ (true = true) ∧
                                        (withW ((w32.setCell (⟨w28.heap.size, 0, none⟩ : Addr) (.int .i64 g31.1)).setCell ((⟨w28.heap.size, 0, none⟩ : Addr).add 1) (.slice g31.2.a g31.2.n g31.2.c)) fun w33 =>
                                        (withW w33.drew fun w35 =>
                                        (∃ S34 : World → Prop, S34 w35 ∧
                                        (onP a0 fun p36 =>
                                        (∃ r37 : Option Nat, ((∀ w38, S34 w38 → w38.cell? (p36.add 1) = some (.map r37))) ∧
                                        (∃ n39 : Int, ((∀ w40, S34 w40 → w40.cell? (⟨w28.heap.size, 0, none⟩ : Addr) = some (.int .i64 n39))) ∧
                                        (onP a0 fun p41 =>
                                        (∃ r42 : Option Nat, ((∀ w43, S34 w43 → w43.cell? (p41.add 1) = some (.map r42))) ∧
                                        (∃ n44 : Int, ((∀ w45, S34 w45 → w45.cell? (⟨w28.heap.size, 0, none⟩ : Addr) = some (.int .i64 n44))) ∧
                                        ((true = true) ∧ (onM r42 ((∃ n47 : Int, ((∀ w48, S34 w48 → w48.cell? (⟨w.heap.size, 0, none⟩ : Addr) = some (.int .i64 n47))) ∧
                                        (∃ s49 : SV, ((∀ w50, S34 w50 → w50.cell? ((⟨w28.heap.size, 0, none⟩ : Addr).add 1) = some (.slice s49.a s49.n s49.c))) ∧
                                        (c_slices_Clone_byte_byte s49 w35 fun (x51 : SV) w52 =>
                                        (S34 w52 ∧
                                        (withW (w52.alloc (.cells #[.int .i64 n47, .slice x51.a x51.n x51.c] 64)) fun w53 =>
                                        (S34 w53 ∧
                                        (appendR (⟨none, 0, 0⟩) (⟨(some (⟨w52.heap.size, 0, none⟩ : Addr)), 1, 1⟩) 2 32 [.int .i64 0, .slice none 0 0] 64 w53 fun (s54 : SV) w55 =>
                                        (S34 w55 ∧
                                        ((true = true) ∧ (onM r37 (False) fun m56 =>
                                        (∃ (es57 : List En) (cl58 : Nat), mapAt w55 m56 .i64 es57 cl58 ∧
                                        (withW (World.setObj w55 m56 (.map (entries .i64 (putM es57 cl58 n39 (.slice s54.a s54.n s54.c))) (putClock es57 cl58 n39))) fun w59 =>
                                        next29 ((IntKind.i64.wrap (x27 + 1))) w59))))))))))))) fun m46 =>
                                        (∃ es60 : List En, ((∀ w63, S34 w63 → ∃ cl61, mapAt w63 m46 .i64 es60 cl61)) ∧ ∃ x62 : SV, (findE es60 n44).getD (.slice none 0 0) = .slice x62.a x62.n x62.c ∧
                                        (∃ n64 : Int, ((∀ w65, S34 w65 → w65.cell? (⟨w.heap.size, 0, none⟩ : Addr) = some (.int .i64 n64))) ∧
                                        (∃ s66 : SV, ((∀ w67, S34 w67 → w67.cell? ((⟨w28.heap.size, 0, none⟩ : Addr).add 1) = some (.slice s66.a s66.n s66.c))) ∧
                                        (c_slices_Clone_byte_byte s66 w35 fun (x68 : SV) w69 =>
                                        (S34 w69 ∧
                                        (withW (w69.alloc (.cells #[.int .i64 n64, .slice x68.a x68.n x68.c] 64)) fun w70 =>
                                        (S34 w70 ∧
                                        (appendR x62 (⟨(some (⟨w69.heap.size, 0, none⟩ : Addr)), 1, 1⟩) 2 32 [.int .i64 0, .slice none 0 0] 64 w70 fun (s71 : SV) w72 =>
                                        (S34 w72 ∧
                                        ((true = true) ∧ (onM r37 (False) fun m73 =>
                                        (∃ (es74 : List En) (cl75 : Nat), mapAt w72 m73 .i64 es74 cl75 ∧
                                        (withW (World.setObj w72 m73 (.map (entries .i64 (putM es74 cl75 n39 (.slice s71.a s71.n s71.c))) (putClock es74 cl75 n39))) fun w76 =>
                                        next29 ((IntKind.i64.wrap (x27 + 1))) w76))))))))))))))))))))))))))))))
                                        ((∃ n77 : Int, (w28.cell? (⟨w.heap.size, 0, none⟩ : Addr) = some (.int .i64 n77)) ∧
                                        (onP a0 fun p78 =>
                                        ((((∃ u, w28.cell? (p78.add 2) = some u) ∧ w28.frozen? (p78.add 2) = false)) ∧ (true = true) ∧
                                        (withW (w28.setCell (p78.add 2) (.int .i64 n77)) fun w79 =>
                                        post (0) w79))))))))))))))))))))))))))))))))))))))))))))
theorem extmap_Map_Apply_vc (a0 : Option Addr) (a1c0 : Int) (a1c1 : SV) (w : World) (post : RT [.cell (.int .i64)] → World → Prop) : vcF Try.prog tab Try.f10 [.cell (.int .i64)] [.pointer a0, .agg #[.int .i64 a1c0, .slice a1c1.a a1c1.n a1c1.c]] w post = f_extmap_Map_Apply a0 a1c0 a1c1 w post := by kernel_rfl
theorem extmap_Map_Apply_ok : okFn Try.f10 2 = true := by kernel_rfl
theorem extmap_Map_Apply_go {w : World} {a0 : Option Addr} {a1c0 : Int} {a1c1 : SV} {post : RT [.cell (.int .i64)] → World → Prop} (h : f_extmap_Map_Apply a0 a1c0 a1c1 w post) : c_extmap_Map_Apply a0 a1c0 a1c1 w post :=
    calls_of_vc tab_ok Try.func10 (rs := [.cell (.int .i64)]) (av := [.pointer a0, .agg #[.int .i64 a1c0, .slice a1c1.a a1c1.n a1c1.c]]) extmap_Map_Apply_ok (Eq.mpr (extmap_Map_Apply_vc a0 a1c0 a1c1 w post) h)
/-- scarp/scarplaw16.sets -/
def f_scarplaw16_sets (a0 : SV) (w : World) (post : ((Option Addr) × (Option Addr) × Bool) → World → Prop) : Prop :=
  (c_ival_New 100 w fun (x1 : (Option Addr)) w2 =>
   (withW (w2.alloc (.cells #[.int .i64 100, .slice none 0 0] 40)) fun w3 =>
    (c_ival_Set_Add x1 a0 w3 fun (x4 : Int) w5 =>
     (bsplit (!(x1).isNone)
      ((c_scarpref11_Set_Add (some (⟨w2.heap.size, 0, none⟩ : Addr)) a0 w5 fun (x6 : Int) w7 =>
        post (x1, (some (⟨w2.heap.size, 0, none⟩ : Addr)), (decide ((x4 : Int) = x6))) w7))
      (post (x1, (some (⟨w2.heap.size, 0, none⟩ : Addr)), false) w5)))))
theorem scarplaw16_sets_vc (a0 : SV) (w : World) (post : RT [.cell (.ptr), .cell (.ptr), .cell (.bool)] → World → Prop) : vcF Try.prog tab Try.f11 [.cell (.ptr), .cell (.ptr), .cell (.bool)] [.slice a0.a a0.n a0.c] w post = f_scarplaw16_sets a0 w post := by kernel_rfl
theorem scarplaw16_sets_ok : okFn Try.f11 1 = true := by kernel_rfl
theorem scarplaw16_sets_go {w : World} {a0 : SV} {post : RT [.cell (.ptr), .cell (.ptr), .cell (.bool)] → World → Prop} (h : f_scarplaw16_sets a0 w post) : c_scarplaw16_sets a0 w post :=
    calls_of_vc tab_ok Try.func11 (rs := [.cell (.ptr), .cell (.ptr), .cell (.bool)]) (av := [.slice a0.a a0.n a0.c]) scarplaw16_sets_ok (Eq.mpr (scarplaw16_sets_vc a0 w post) h)
/-- scarp/valid.Check; loop over (t11 : Int, t25 : Int); loop over (t11 : Int, t31 : Int); loop over (t11 : Int, t59 : Int) -/
def f_valid_Check (a0 : Option Addr) (a1 : SV) (a2 : Int) (a3 : Option Addr) (a4 : Option Addr) (w : World) (post : Int → World → Prop) : Prop :=
  (c_ival_Set_Count a4 w fun (x1 : Int) w2 =>
   (bsplit (decide ((x1 : Int) = 0))
    (post (0) w2)
    ((loopR (α := Int × Int) (0, 0) w2 fun x3 w4 next5 =>
      (bsplit (decide ((x3.2 : Int) < 2))
       ((0 ≤ (x3.2 : Int) ∧ (x3.2 : Int) < ((2 : Nat) : Int) ∧ ∃ v6 : Option Addr, (#[.pointer a3, .pointer a4] : Array Value)[(x3.2 : Int).toNat * 1]? = some (.pointer v6) ∧
         (c_ival_Set_Extents v6 w4 fun (x7 : SV) w8 =>
          (loopR (α := Int × Int) (x3.1, 0) w8 fun x9 w10 next11 =>
           (bsplit (decide ((x9.2 : Int) < ((x7.n : Nat) : Int)))
            ((0 ≤ (x9.2 : Int) ∧ (x9.2 : Int) < ((x7.n : Nat) : Int) ∧
              (onP x7.a fun p12 =>
               (∃ g13 : Int × Int, (w10.cell? (p12.add ((x9.2 : Int).toNat * 2)) = some (.int .i64 g13.1) ∧ w10.cell? ((p12.add ((x9.2 : Int).toNat * 2)).add 1) = some (.int .i64 g13.2)) ∧
                (withW (w10.alloc (.cells #[.int .i64 0, .int .i64 0] 44)) fun w14 =>
                 ((((∃ u, w14.cell? (⟨w10.heap.size, 0, none⟩ : Addr) = some u) ∧ w14.frozen? (⟨w10.heap.size, 0, none⟩ : Addr) = false) ∧ ((∃ u, w14.cell? ((⟨w10.heap.size, 0, none⟩ : Addr).add 1) = some u) ∧ w14.frozen? ((⟨w10.heap.size, 0, none⟩ : Addr).add 1) = false)) ∧ (true = true) ∧
                  (withW ((w14.setCell (⟨w10.heap.size, 0, none⟩ : Addr) (.int .i64 g13.1)).setCell ((⟨w10.heap.size, 0, none⟩ : Addr).add 1) (.int .i64 g13.2)) fun w15 =>
                   (∃ n16 : Int, (w15.cell? (⟨w10.heap.size, 0, none⟩ : Addr) = some (.int .i64 n16)) ∧
                    (∃ n17 : Int, (w15.cell? ((⟨w10.heap.size, 0, none⟩ : Addr).add 1) = some (.int .i64 n17)) ∧
                     (withW (w15.alloc (.cells #[.int .i64 0, .int .i64 0] 44)) fun w18 =>
                      ((((∃ u, w18.cell? (⟨w15.heap.size, 0, none⟩ : Addr) = some u) ∧ w18.frozen? (⟨w15.heap.size, 0, none⟩ : Addr) = false) ∧ ((∃ u, w18.cell? ((⟨w15.heap.size, 0, none⟩ : Addr).add 1) = some u) ∧ w18.frozen? ((⟨w15.heap.size, 0, none⟩ : Addr).add 1) = false)) ∧ (true = true) ∧
                       (withW ((w18.setCell (⟨w15.heap.size, 0, none⟩ : Addr) (.int .i64 (IntKind.i64.wrap ((IntKind.i64.wrap (n16 + n17)) - 1)))).setCell ((⟨w15.heap.size, 0, none⟩ : Addr).add 1) (.int .i64 1)) fun w19 =>
                        (∃ n20 : Int, (w19.cell? ((⟨w10.heap.size, 0, none⟩ : Addr).add 1) = some (.int .i64 n20)) ∧
                         ((((∃ u, w19.cell? ((⟨w10.heap.size, 0, none⟩ : Addr).add 1) = some u) ∧ w19.frozen? ((⟨w10.heap.size, 0, none⟩ : Addr).add 1) = false)) ∧ (true = true) ∧
                          (withW (w19.setCell ((⟨w10.heap.size, 0, none⟩ : Addr).add 1) (.int .i64 (if (1048576 : Int) < n20 then 1048576 else n20))) fun w21 =>
                           (∃ g22 : Int × Int, (w21.cell? (⟨w10.heap.size, 0, none⟩ : Addr) = some (.int .i64 g22.1) ∧ w21.cell? ((⟨w10.heap.size, 0, none⟩ : Addr).add 1) = some (.int .i64 g22.2)) ∧
                            (c_extmap_Map_Written a0 g22.1 g22.2 a2 w21 fun (x23 : Bool) w24 =>
                             (bsplit x23
                              (post (8) w24)
                              ((∃ g25 : Int × Int, (w24.cell? (⟨w15.heap.size, 0, none⟩ : Addr) = some (.int .i64 g25.1) ∧ w24.cell? ((⟨w15.heap.size, 0, none⟩ : Addr).add 1) = some (.int .i64 g25.2)) ∧
                                (c_extmap_Map_Written a0 g25.1 g25.2 a2 w24 fun (x26 : Bool) w27 =>
                                 (bsplit x26
                                  (post (8) w27)
                                  (next11 (x9.1, (IntKind.i64.wrap (x9.2 + 1))) w27)))))))))))))))))))))))
            ((loopR (α := Int × Int) (x9.1, 0) w10 fun x28 w29 next30 =>
              (bsplit (decide ((x28.2 : Int) < ((a1.n : Nat) : Int)))
               ((0 ≤ (x28.2 : Int) ∧ (x28.2 : Int) < ((a1.n : Nat) : Int) ∧
                 (onP a1.a fun p31 =>
                  (∃ g32 : Int × SV, (w29.cell? (p31.add ((x28.2 : Int).toNat * 2)) = some (.int .i64 g32.1) ∧ w29.cell? ((p31.add ((x28.2 : Int).toNat * 2)).add 1) = some (.slice g32.2.a g32.2.n g32.2.c)) ∧
                   (withW (w29.alloc (.cells #[.int .i64 0, .slice none 0 0] 33)) fun w33 =>
                    ((((∃ u, w33.cell? (⟨w29.heap.size, 0, none⟩ : Addr) = some u) ∧ w33.frozen? (⟨w29.heap.size, 0, none⟩ : Addr) = false) ∧ ((∃ u, w33.cell? ((⟨w29.heap.size, 0, none⟩ : Addr).add 1) = some u) ∧ w33.frozen? ((⟨w29.heap.size, 0, none⟩ : Addr).add 1) = false)) ∧ (true = true) ∧
                     (withW ((w33.setCell (⟨w29.heap.size, 0, none⟩ : Addr) (.int .i64 g32.1)).setCell ((⟨w29.heap.size, 0, none⟩ : Addr).add 1) (.slice g32.2.a g32.2.n g32.2.c)) fun w34 =>
                      (∃ g35 : Int × SV, (w34.cell? (⟨w29.heap.size, 0, none⟩ : Addr) = some (.int .i64 g35.1) ∧ w34.cell? ((⟨w29.heap.size, 0, none⟩ : Addr).add 1) = some (.slice g35.2.a g35.2.n g35.2.c)) ∧
                       (c_valid_Against g35.1 g35.2 v6 w34 fun (x36 : Bool) w37 =>
                        (bsplit x36
                         (post (8) w37)
                         (next30 (x28.1, (IntKind.i64.wrap (x28.2 + 1))) w37)))))))))))
               (next5 (x28.1, (IntKind.i64.wrap (x3.2 + 1))) w29)))))))))
       (post (x3.1) w4))))))
theorem valid_Check_vc (a0 : Option Addr) (a1 : SV) (a2 : Int) (a3 : Option Addr) (a4 : Option Addr) (w : World) (post : RT [.cell (.int .i64)] → World → Prop) : vcF Try.prog tab Try.f12 [.cell (.int .i64)] [.pointer a0, .slice a1.a a1.n a1.c, .int .i64 a2, .pointer a3, .pointer a4] w post = f_valid_Check a0 a1 a2 a3 a4 w post := by kernel_rfl
theorem valid_Check_ok : okFn Try.f12 5 = true := by kernel_rfl
theorem valid_Check_go {w : World} {a0 : Option Addr} {a1 : SV} {a2 : Int} {a3 : Option Addr} {a4 : Option Addr} {post : RT [.cell (.int .i64)] → World → Prop} (h : f_valid_Check a0 a1 a2 a3 a4 w post) : c_valid_Check a0 a1 a2 a3 a4 w post :=
    calls_of_vc tab_ok Try.func12 (rs := [.cell (.int .i64)]) (av := [.pointer a0, .slice a1.a a1.n a1.c, .int .i64 a2, .pointer a3, .pointer a4]) valid_Check_ok (Eq.mpr (valid_Check_vc a0 a1 a2 a3 a4 w post) h)
/-- (*scarp/extmap.Map).Last -/
def f_extmap_Map_Last (a0 : Option Addr) (w : World) (post : Int → World → Prop) : Prop :=
  (bsplit ((a0).isNone)
   (post (0) w)
   ((onP a0 fun p1 =>
     (∃ n2 : Int, (w.cell? (p1.add 2) = some (.int .i64 n2)) ∧
      post (n2) w))))
theorem extmap_Map_Last_vc (a0 : Option Addr) (w : World) (post : RT [.cell (.int .i64)] → World → Prop) : vcF Try.prog tab Try.f13 [.cell (.int .i64)] [.pointer a0] w post = f_extmap_Map_Last a0 w post := by kernel_rfl
theorem extmap_Map_Last_ok : okFn Try.f13 1 = true := by kernel_rfl
theorem extmap_Map_Last_go {w : World} {a0 : Option Addr} {post : RT [.cell (.int .i64)] → World → Prop} (h : f_extmap_Map_Last a0 w post) : c_extmap_Map_Last a0 w post :=
    calls_of_vc tab_ok Try.func13 (rs := [.cell (.int .i64)]) (av := [.pointer a0]) extmap_Map_Last_ok (Eq.mpr (extmap_Map_Last_vc a0 w post) h)
/-- scarp/valid.Order; loop over (t2 : Bool, last : Int, t9 : Int); loop over (t2 : Bool, i : Int) -/
def f_valid_Order (a0 : SV) (w : World) (post : Bool → World → Prop) : Prop :=
  (loopR (α := Bool × Int × Int) (false, 0, 0) w fun x1 w2 next3 =>
   (bsplit (decide ((x1.2.2 : Int) < ((a0.n : Nat) : Int)))
    ((0 ≤ (x1.2.2 : Int) ∧ (x1.2.2 : Int) < ((a0.n : Nat) : Int) ∧
      (onP a0.a fun p4 =>
       (∃ g5 : Int × SV, (w2.cell? (p4.add ((x1.2.2 : Int).toNat * 2)) = some (.int .i64 g5.1) ∧ w2.cell? ((p4.add ((x1.2.2 : Int).toNat * 2)).add 1) = some (.slice g5.2.a g5.2.n g5.2.c)) ∧
        (withW (w2.alloc (.cells #[.int .i64 0, .slice none 0 0] 33)) fun w6 =>
         ((((∃ u, w6.cell? (⟨w2.heap.size, 0, none⟩ : Addr) = some u) ∧ w6.frozen? (⟨w2.heap.size, 0, none⟩ : Addr) = false) ∧ ((∃ u, w6.cell? ((⟨w2.heap.size, 0, none⟩ : Addr).add 1) = some u) ∧ w6.frozen? ((⟨w2.heap.size, 0, none⟩ : Addr).add 1) = false)) ∧ (true = true) ∧
          (withW ((w6.setCell (⟨w2.heap.size, 0, none⟩ : Addr) (.int .i64 g5.1)).setCell ((⟨w2.heap.size, 0, none⟩ : Addr).add 1) (.slice g5.2.a g5.2.n g5.2.c)) fun w7 =>
           (∃ n8 : Int, (w7.cell? (⟨w2.heap.size, 0, none⟩ : Addr) = some (.int .i64 n8)) ∧
            (bsplit (decide ((n8 : Int) ≤ x1.2.1))
             (post (false) w7)
             ((∃ n9 : Int, (w7.cell? (⟨w2.heap.size, 0, none⟩ : Addr) = some (.int .i64 n9)) ∧
               (bsplit (decide ((1099511627776 : Int) < n9))
                (post (false) w7)
                ((∃ s10 : SV, (w7.cell? ((⟨w2.heap.size, 0, none⟩ : Addr).add 1) = some (.slice s10.a s10.n s10.c)) ∧
                  (bsplit (decide ((((s10.n : Nat) : Int) : Int) = 0))
                   (post (false) w7)
                   ((∃ n11 : Int, (w7.cell? (⟨w2.heap.size, 0, none⟩ : Addr) = some (.int .i64 n11)) ∧
                     (loopR (α := Bool × Int) (x1.1, 1) w7 fun x12 w13 next14 =>
                      (∃ s15 : SV, (w13.cell? ((⟨w2.heap.size, 0, none⟩ : Addr).add 1) = some (.slice s15.a s15.n s15.c)) ∧
                       (bsplit (decide ((x12.2 : Int) < ((s15.n : Nat) : Int)))
                        ((withW w13.drew fun w16 =>
                          (∃ s17 : SV, (w16.cell? ((⟨w2.heap.size, 0, none⟩ : Addr).add 1) = some (.slice s17.a s17.n s17.c)) ∧
                           (0 ≤ (x12.2 : Int) ∧ (x12.2 : Int) < ((s17.n : Nat) : Int) ∧
                            (onP s17.a fun p18 =>
                             (∃ n19 : Int, (w16.cell? (p18.add ((x12.2 : Int).toNat * 2)) = some (.int .i64 n19)) ∧
                              (∃ s20 : SV, (w16.cell? ((⟨w2.heap.size, 0, none⟩ : Addr).add 1) = some (.slice s20.a s20.n s20.c)) ∧
                               (0 ≤ ((IntKind.i64.wrap (x12.2 - 1)) : Int) ∧ ((IntKind.i64.wrap (x12.2 - 1)) : Int) < ((s20.n : Nat) : Int) ∧
                                (onP s20.a fun p21 =>
                                 (∃ n22 : Int, (w16.cell? (p21.add (((IntKind.i64.wrap (x12.2 - 1)) : Int).toNat * 2)) = some (.int .i64 n22)) ∧
                                  (bsplit (decide ((n19 : Int) ≤ n22))
                                   (post (false) w16)
                                   (next14 (x12.1, (IntKind.i64.wrap (x12.2 + 1))) w16))))))))))))
                        (next3 (x12.1, n11, (IntKind.i64.wrap (x1.2.2 + 1))) w13)))))))))))))))))))))
    (post (true) w2)))
theorem valid_Order_vc (a0 : SV) (w : World) (post : RT [.cell (.bool)] → World → Prop) : vcF Try.prog tab Try.f14 [.cell (.bool)] [.slice a0.a a0.n a0.c] w post = f_valid_Order a0 w post := by kernel_rfl
theorem valid_Order_ok : okFn Try.f14 1 = true := by kernel_rfl
theorem valid_Order_go {w : World} {a0 : SV} {post : RT [.cell (.bool)] → World → Prop} (h : f_valid_Order a0 w post) : c_valid_Order a0 w post :=
    calls_of_vc tab_ok Try.func14 (rs := [.cell (.bool)]) (av := [.slice a0.a a0.n a0.c]) valid_Order_ok (Eq.mpr (valid_Order_vc a0 w post) h)
/-- scarp/scarpref11.Order; loop over (t2 : Bool, t3 : Int, t4 : Int); loop over (t2 : Bool, t5 : Int) -/
def f_scarpref11_Order (a0 : SV) (w : World) (post : Bool → World → Prop) : Prop :=
  (loopR (α := Bool × Int × Int) (false, 0, 0) w fun x1 w2 next3 =>
   (bsplit (decide ((x1.2.2 : Int) < ((a0.n : Nat) : Int)))
    ((0 ≤ (x1.2.2 : Int) ∧ (x1.2.2 : Int) < ((a0.n : Nat) : Int) ∧
      (onP a0.a fun p4 =>
       (∃ n5 : Int, (w2.cell? (p4.add ((x1.2.2 : Int).toNat * 2)) = some (.int .i64 n5)) ∧
        (bsplit (decide ((n5 : Int) ≤ x1.2.1))
         (post (false) w2)
         ((0 ≤ (x1.2.2 : Int) ∧ (x1.2.2 : Int) < ((a0.n : Nat) : Int) ∧
           (onP a0.a fun p6 =>
            (∃ n7 : Int, (w2.cell? (p6.add ((x1.2.2 : Int).toNat * 2)) = some (.int .i64 n7)) ∧
             (bsplit (decide ((1099511627776 : Int) < n7))
              (post (false) w2)
              ((0 ≤ (x1.2.2 : Int) ∧ (x1.2.2 : Int) < ((a0.n : Nat) : Int) ∧
                (onP a0.a fun p8 =>
                 (∃ s9 : SV, (w2.cell? ((p8.add ((x1.2.2 : Int).toNat * 2)).add 1) = some (.slice s9.a s9.n s9.c)) ∧
                  (bsplit (decide ((((s9.n : Nat) : Int) : Int) = 0))
                   (post (false) w2)
                   ((0 ≤ (x1.2.2 : Int) ∧ (x1.2.2 : Int) < ((a0.n : Nat) : Int) ∧
                     (onP a0.a fun p10 =>
                      (∃ n11 : Int, (w2.cell? (p10.add ((x1.2.2 : Int).toNat * 2)) = some (.int .i64 n11)) ∧
                       (loopR (α := Bool × Int) (x1.1, 1) w2 fun x12 w13 next14 =>
                        (0 ≤ (x1.2.2 : Int) ∧ (x1.2.2 : Int) < ((a0.n : Nat) : Int) ∧
                         (onP a0.a fun p15 =>
                          (∃ s16 : SV, (w13.cell? ((p15.add ((x1.2.2 : Int).toNat * 2)).add 1) = some (.slice s16.a s16.n s16.c)) ∧
                           (bsplit (decide ((x12.2 : Int) < ((s16.n : Nat) : Int)))
                            ((withW w13.drew fun w17 =>
                              (0 ≤ (x1.2.2 : Int) ∧ (x1.2.2 : Int) < ((a0.n : Nat) : Int) ∧
                               (onP a0.a fun p18 =>
                                (∃ s19 : SV, (w17.cell? ((p18.add ((x1.2.2 : Int).toNat * 2)).add 1) = some (.slice s19.a s19.n s19.c)) ∧
                                 (0 ≤ (x12.2 : Int) ∧ (x12.2 : Int) < ((s19.n : Nat) : Int) ∧
                                  (onP s19.a fun p20 =>
                                   (∃ n21 : Int, (w17.cell? (p20.add ((x12.2 : Int).toNat * 2)) = some (.int .i64 n21)) ∧
                                    (0 ≤ (x1.2.2 : Int) ∧ (x1.2.2 : Int) < ((a0.n : Nat) : Int) ∧
                                     (onP a0.a fun p22 =>
                                      (∃ s23 : SV, (w17.cell? ((p22.add ((x1.2.2 : Int).toNat * 2)).add 1) = some (.slice s23.a s23.n s23.c)) ∧
                                       (0 ≤ ((IntKind.i64.wrap (x12.2 - 1)) : Int) ∧ ((IntKind.i64.wrap (x12.2 - 1)) : Int) < ((s23.n : Nat) : Int) ∧
                                        (onP s23.a fun p24 =>
                                        (∃ n25 : Int, (w17.cell? (p24.add (((IntKind.i64.wrap (x12.2 - 1)) : Int).toNat * 2)) = some (.int .i64 n25)) ∧
                                        (bsplit (decide ((n21 : Int) ≤ n25))
                                        (post (false) w17)
                                        (next14 (x12.1, (IntKind.i64.wrap (x12.2 + 1))) w17))))))))))))))))
                            ((withI (IntKind.i64.wrap (x1.2.2 + 1)) fun i26 =>
                              next3 (x12.1, n11, i26) w13))))))))))))))))))))))))))
    (post (true) w2)))
theorem scarpref11_Order_vc (a0 : SV) (w : World) (post : RT [.cell (.bool)] → World → Prop) : vcF Try.prog tab Try.f15 [.cell (.bool)] [.slice a0.a a0.n a0.c] w post = f_scarpref11_Order a0 w post := by kernel_rfl
theorem scarpref11_Order_ok : okFn Try.f15 1 = true := by kernel_rfl
theorem scarpref11_Order_go {w : World} {a0 : SV} {post : RT [.cell (.bool)] → World → Prop} (h : f_scarpref11_Order a0 w post) : c_scarpref11_Order a0 w post :=
    calls_of_vc tab_ok Try.func15 (rs := [.cell (.bool)]) (av := [.slice a0.a a0.n a0.c]) scarpref11_Order_ok (Eq.mpr (scarpref11_Order_vc a0 w post) h)
/-- scarp/scarpalike.Sum; loop over (t4 : Int, n : Int, i : Int) -/
def f_scarpalike_Sum (a0 : Int) (a1 : SV) (w : World) (post : Int → World → Prop) : Prop :=
  (loopR (α := Int × Int × Int) (0, a0, 0) w fun x1 w2 next3 =>
   (bsplit (decide ((x1.2.2 : Int) < ((a1.n : Nat) : Int)))
    ((bsplit (decide ((1099511627776 : Int) < x1.2.1))
      (post (1099511627776) w2)
      ((0 ≤ (x1.2.2 : Int) ∧ (x1.2.2 : Int) < ((a1.n : Nat) : Int) ∧
        (onP a1.a fun p4 =>
         (∃ n5 : Int, (w2.cell? (p4.add ((x1.2.2 : Int).toNat * 1)) = some (.int .i64 n5)) ∧
          (bsplit (decide (((IntKind.i64.wrap (1099511627776 - x1.2.1)) : Int) < n5))
           (post (1099511627776) w2)
           ((0 ≤ (x1.2.2 : Int) ∧ (x1.2.2 : Int) < ((a1.n : Nat) : Int) ∧
             (onP a1.a fun p6 =>
              (∃ n7 : Int, (w2.cell? (p6.add ((x1.2.2 : Int).toNat * 1)) = some (.int .i64 n7)) ∧
               (withI (IntKind.i64.wrap (x1.2.1 + n7)) fun i8 =>
                (withI (IntKind.i64.wrap (x1.2.2 + 1)) fun i9 =>
                 next3 (x1.1, i8, i9) w2)))))))))))))
    (post (x1.2.1) w2)))
theorem scarpalike_Sum_vc (a0 : Int) (a1 : SV) (w : World) (post : RT [.cell (.int .i64)] → World → Prop) : vcF Try.prog tab Try.f16 [.cell (.int .i64)] [.int .i64 a0, .slice a1.a a1.n a1.c] w post = f_scarpalike_Sum a0 a1 w post := by kernel_rfl
theorem scarpalike_Sum_ok : okFn Try.f16 2 = true := by kernel_rfl
theorem scarpalike_Sum_go {w : World} {a0 : Int} {a1 : SV} {post : RT [.cell (.int .i64)] → World → Prop} (h : f_scarpalike_Sum a0 a1 w post) : c_scarpalike_Sum a0 a1 w post :=
    calls_of_vc tab_ok Try.func16 (rs := [.cell (.int .i64)]) (av := [.int .i64 a0, .slice a1.a a1.n a1.c]) scarpalike_Sum_ok (Eq.mpr (scarpalike_Sum_vc a0 a1 w post) h)
/-- scarp/scarpalike.Txs; loop over (n : Int, i : Int) -/
def f_scarpalike_Txs (a0 : SV) (a1 : Int) (w : World) (post : Int → World → Prop) : Prop :=
  (withW (w.alloc (.cells #[.int .i64 ((a0.n : Nat) : Int)] 3)) fun w1 =>
   (c_scarpalike_Sum 0 (⟨(some (⟨w.heap.size, 0, none⟩ : Addr)), 1, 1⟩) w1 fun (x2 : Int) w3 =>
    (loopR (α := Int × Int) (x2, 0) w3 fun x4 w5 next6 =>
     (bsplit (decide ((x4.2 : Int) < ((a0.n : Nat) : Int)))
      ((bsplit (decide ((x4.1 : Int) ≤ a1))
        ((0 ≤ (x4.2 : Int) ∧ (x4.2 : Int) < ((a0.n : Nat) : Int) ∧
          (onP a0.a fun p7 =>
           (∃ s8 : SV, (w5.cell? ((p7.add ((x4.2 : Int).toNat * 2)).add 1) = some (.slice s8.a s8.n s8.c)) ∧
            (c_scarpalike_Puts s8 a1 w5 fun (x9 : Int) w10 =>
             (withW (w10.alloc (.cells #[.int .i64 x9] 3)) fun w11 =>
              (c_scarpalike_Sum x4.1 (⟨(some (⟨w10.heap.size, 0, none⟩ : Addr)), 1, 1⟩) w11 fun (x12 : Int) w13 =>
               next6 (x12, (IntKind.i64.wrap (x4.2 + 1))) w13)))))))
        (post (x4.1) w5)))
      (post (x4.1) w5)))))
theorem scarpalike_Txs_vc (a0 : SV) (a1 : Int) (w : World) (post : RT [.cell (.int .i64)] → World → Prop) : vcF Try.prog tab Try.f17 [.cell (.int .i64)] [.slice a0.a a0.n a0.c, .int .i64 a1] w post = f_scarpalike_Txs a0 a1 w post := by kernel_rfl
theorem scarpalike_Txs_ok : okFn Try.f17 2 = true := by kernel_rfl
theorem scarpalike_Txs_go {w : World} {a0 : SV} {a1 : Int} {post : RT [.cell (.int .i64)] → World → Prop} (h : f_scarpalike_Txs a0 a1 w post) : c_scarpalike_Txs a0 a1 w post :=
    calls_of_vc tab_ok Try.func17 (rs := [.cell (.int .i64)]) (av := [.slice a0.a a0.n a0.c, .int .i64 a1]) scarpalike_Txs_ok (Eq.mpr (scarpalike_Txs_vc a0 a1 w post) h)
/-- scarp/scarpalike.Data -/
def f_scarpalike_Data (a0 : Int) (w : World) (post : SV → World → Prop) : Prop :=
  (c_scarpalike_Block 40 a0 w fun (x1 : SV) w2 =>
   post (⟨x1.a, x1.n, x1.c⟩) w2)
theorem scarpalike_Data_vc (a0 : Int) (w : World) (post : RT [.cell (.slice)] → World → Prop) : vcF Try.prog tab Try.f18 [.cell (.slice)] [.int .i64 a0] w post = f_scarpalike_Data a0 w post := by kernel_rfl
theorem scarpalike_Data_ok : okFn Try.f18 1 = true := by kernel_rfl
theorem scarpalike_Data_go {w : World} {a0 : Int} {post : RT [.cell (.slice)] → World → Prop} (h : f_scarpalike_Data a0 w post) : c_scarpalike_Data a0 w post :=
    calls_of_vc tab_ok Try.func18 (rs := [.cell (.slice)]) (av := [.int .i64 a0]) scarpalike_Data_ok (Eq.mpr (scarpalike_Data_vc a0 w post) h)
/-- (*scarp/extmap.Map).gone -/
def f_extmap_Map_gone (a0 : Option Addr) (w : World) (post : Bool → World → Prop) : Prop :=
  (bsplit ((a0).isNone)
   (post (true) w)
   ((onP a0 fun p1 =>
     (∃ n2 : Int, (w.cell? p1 = some (.int .i64 n2)) ∧
      post ((decide ((n2 : Int) = 0))) w))))
theorem extmap_Map_gone_vc (a0 : Option Addr) (w : World) (post : RT [.cell (.bool)] → World → Prop) : vcF Try.prog tab Try.f19 [.cell (.bool)] [.pointer a0] w post = f_extmap_Map_gone a0 w post := by kernel_rfl
theorem extmap_Map_gone_ok : okFn Try.f19 1 = true := by kernel_rfl
theorem extmap_Map_gone_go {w : World} {a0 : Option Addr} {post : RT [.cell (.bool)] → World → Prop} (h : f_extmap_Map_gone a0 w post) : c_extmap_Map_gone a0 w post :=
    calls_of_vc tab_ok Try.func19 (rs := [.cell (.bool)]) (av := [.pointer a0]) extmap_Map_gone_ok (Eq.mpr (extmap_Map_gone_vc a0 w post) h)
/-- scarp/extmap.rise; loop over (t2 : Bool, i : Int) -/
def f_extmap_rise (a0 : SV) (w : World) (post : Bool → World → Prop) : Prop :=
  (loopR (α := Bool × Int) (false, 1) w fun x1 w2 next3 =>
   (bsplit (decide ((x1.2 : Int) < ((a0.n : Nat) : Int)))
    ((withW w2.drew fun w4 =>
      (0 ≤ (x1.2 : Int) ∧ (x1.2 : Int) < ((a0.n : Nat) : Int) ∧
       (onP a0.a fun p5 =>
        (∃ n6 : Int, (w4.cell? (p5.add ((x1.2 : Int).toNat * 2)) = some (.int .i64 n6)) ∧
         (0 ≤ ((IntKind.i64.wrap (x1.2 - 1)) : Int) ∧ ((IntKind.i64.wrap (x1.2 - 1)) : Int) < ((a0.n : Nat) : Int) ∧
          (onP a0.a fun p7 =>
           (∃ n8 : Int, (w4.cell? (p7.add (((IntKind.i64.wrap (x1.2 - 1)) : Int).toNat * 2)) = some (.int .i64 n8)) ∧
            (bsplit (decide ((n6 : Int) ≤ n8))
             (post (false) w4)
             (next3 (x1.1, (IntKind.i64.wrap (x1.2 + 1))) w4))))))))))
    (post ((decide ((0 : Int) < ((a0.n : Nat) : Int)))) w2)))
theorem extmap_rise_vc (a0 : SV) (w : World) (post : RT [.cell (.bool)] → World → Prop) : vcF Try.prog tab Try.f20 [.cell (.bool)] [.slice a0.a a0.n a0.c] w post = f_extmap_rise a0 w post := by kernel_rfl
theorem extmap_rise_ok : okFn Try.f20 1 = true := by kernel_rfl
theorem extmap_rise_go {w : World} {a0 : SV} {post : RT [.cell (.bool)] → World → Prop} (h : f_extmap_rise a0 w post) : c_extmap_rise a0 w post :=
    calls_of_vc tab_ok Try.func20 (rs := [.cell (.bool)]) (av := [.slice a0.a a0.n a0.c]) extmap_rise_ok (Eq.mpr (extmap_rise_vc a0 w post) h)
/-- (*scarp/extmap.Map).block -/
def f_extmap_Map_block (a0 : Option Addr) (a1 : Int) (w : World) (post : Bool → World → Prop) : Prop :=
  (bsplit (decide ((0 : Int) ≤ a1))
   ((c_extmap_Map_Blocks a0 w fun (x1 : Int) w2 =>
     post ((decide ((a1 : Int) < x1))) w2))
   (post (false) w))
theorem extmap_Map_block_vc (a0 : Option Addr) (a1 : Int) (w : World) (post : RT [.cell (.bool)] → World → Prop) : vcF Try.prog tab Try.f21 [.cell (.bool)] [.pointer a0, .int .i64 a1] w post = f_extmap_Map_block a0 a1 w post := by kernel_rfl
theorem extmap_Map_block_ok : okFn Try.f21 2 = true := by kernel_rfl
theorem extmap_Map_block_go {w : World} {a0 : Option Addr} {a1 : Int} {post : RT [.cell (.bool)] → World → Prop} (h : f_extmap_Map_block a0 a1 w post) : c_extmap_Map_block a0 a1 w post :=
    calls_of_vc tab_ok Try.func21 (rs := [.cell (.bool)]) (av := [.pointer a0, .int .i64 a1]) extmap_Map_block_ok (Eq.mpr (extmap_Map_block_vc a0 a1 w post) h)
/-- slices.ContainsFunc[[]scarp/api.Put,scarp/api.Put] -/
def f_slices_ContainsFunc_api_Put_api_Put_at_extmap_Map_Apply_1 (a0 : SV) (w : World) (post : Bool → World → Prop) : Prop :=
  (c_slices_IndexFunc_api_Put_api_Put_at_extmap_Map_Apply_1 a0 w fun (x1 : Int) w2 =>
   post ((decide ((0 : Int) ≤ x1))) w2)
theorem slices_ContainsFunc_api_Put_api_Put_at_extmap_Map_Apply_1_vc (a0 : SV) (w : World) (post : RT [.cell (.bool)] → World → Prop) : vcF Try.prog tab Try.f22 [.cell (.bool)] [.slice a0.a a0.n a0.c, .func (.func 23) #[] #[]] w post = f_slices_ContainsFunc_api_Put_api_Put_at_extmap_Map_Apply_1 a0 w post := by kernel_rfl
theorem slices_ContainsFunc_api_Put_api_Put_at_extmap_Map_Apply_1_ok : okFn Try.f22 2 = true := by kernel_rfl
theorem slices_ContainsFunc_api_Put_api_Put_at_extmap_Map_Apply_1_go {w : World} {a0 : SV} {post : RT [.cell (.bool)] → World → Prop} (h : f_slices_ContainsFunc_api_Put_api_Put_at_extmap_Map_Apply_1 a0 w post) : c_slices_ContainsFunc_api_Put_api_Put_at_extmap_Map_Apply_1 a0 w post :=
    calls_of_vc tab_ok Try.func22 (rs := [.cell (.bool)]) (av := [.slice a0.a a0.n a0.c, .func (.func 23) #[] #[]]) slices_ContainsFunc_api_Put_api_Put_at_extmap_Map_Apply_1_ok (Eq.mpr (slices_ContainsFunc_api_Put_api_Put_at_extmap_Map_Apply_1_vc a0 w post) h)
/-- slices.ContainsFunc[[]scarp/api.Put,scarp/api.Put] -/
def f_slices_ContainsFunc_api_Put_api_Put_at_valid_Against_1 (a0 : SV) (a1c0 : Option Addr) (w : World) (post : Bool → World → Prop) : Prop :=
  (c_slices_IndexFunc_api_Put_api_Put_at_valid_Against_1 a0 a1c0 w fun (x1 : Int) w2 =>
   post ((decide ((0 : Int) ≤ x1))) w2)
theorem slices_ContainsFunc_api_Put_api_Put_at_valid_Against_1_vc (a0 : SV) (a1c0 : Option Addr) (w : World) (post : RT [.cell (.bool)] → World → Prop) : vcF Try.prog tab Try.f22 [.cell (.bool)] [.slice a0.a a0.n a0.c, .func (.func 42) #[] #[.pointer a1c0]] w post = f_slices_ContainsFunc_api_Put_api_Put_at_valid_Against_1 a0 a1c0 w post := by kernel_rfl
theorem slices_ContainsFunc_api_Put_api_Put_at_valid_Against_1_ok : okFn Try.f22 2 = true := by kernel_rfl
theorem slices_ContainsFunc_api_Put_api_Put_at_valid_Against_1_go {w : World} {a0 : SV} {a1c0 : Option Addr} {post : RT [.cell (.bool)] → World → Prop} (h : f_slices_ContainsFunc_api_Put_api_Put_at_valid_Against_1 a0 a1c0 w post) : c_slices_ContainsFunc_api_Put_api_Put_at_valid_Against_1 a0 a1c0 w post :=
    calls_of_vc tab_ok Try.func22 (rs := [.cell (.bool)]) (av := [.slice a0.a a0.n a0.c, .func (.func 42) #[] #[.pointer a1c0]]) slices_ContainsFunc_api_Put_api_Put_at_valid_Against_1_ok (Eq.mpr (slices_ContainsFunc_api_Put_api_Put_at_valid_Against_1_vc a0 a1c0 w post) h)
/-- (*scarp/extmap.Map).Apply$1 -/
def f_extmap_Map_Apply_1 (a0c0 : Int) (a0c1 : SV) (w : World) (post : Bool → World → Prop) : Prop :=
  (withW (w.alloc (.cells #[.int .i64 a0c0, .slice a0c1.a a0c1.n a0c1.c] 53)) fun w1 =>
   (∃ s2 : SV, (w1.cell? ((⟨w.heap.size, 0, none⟩ : Addr).add 1) = some (.slice s2.a s2.n s2.c)) ∧
    post ((!decide ((((s2.n : Nat) : Int) : Int) = 40))) w1))
theorem extmap_Map_Apply_1_vc (a0c0 : Int) (a0c1 : SV) (w : World) (post : RT [.cell (.bool)] → World → Prop) : vcF Try.prog tab Try.f23 [.cell (.bool)] [.agg #[.int .i64 a0c0, .slice a0c1.a a0c1.n a0c1.c]] w post = f_extmap_Map_Apply_1 a0c0 a0c1 w post := by kernel_rfl
theorem extmap_Map_Apply_1_ok : okFn Try.f23 1 = true := by kernel_rfl
theorem extmap_Map_Apply_1_go {w : World} {a0c0 : Int} {a0c1 : SV} {post : RT [.cell (.bool)] → World → Prop} (h : f_extmap_Map_Apply_1 a0c0 a0c1 w post) : c_extmap_Map_Apply_1 a0c0 a0c1 w post :=
    calls_of_vc tab_ok Try.func23 (rs := [.cell (.bool)]) (av := [.agg #[.int .i64 a0c0, .slice a0c1.a a0c1.n a0c1.c]]) extmap_Map_Apply_1_ok (Eq.mpr (extmap_Map_Apply_1_vc a0c0 a0c1 w post) h)
/-- slices.Clone[[]byte,byte] -/
def f_slices_Clone_byte_byte (a0 : SV) (w : World) (post : SV → World → Prop) : Prop :=
  (bsplit ((a0.a).isNone)
   (post (⟨none, 0, 0⟩) w)
   ((withW (w.alloc (.cells #[] 5)) fun w1 =>
     (appendR (⟨(some (⟨w.heap.size, 0, none⟩ : Addr)), 0, 0⟩) a0 1 1 [.int .u8 0] 5 w1 fun (s2 : SV) w3 =>
      post (⟨s2.a, s2.n, s2.c⟩) w3))))
theorem slices_Clone_byte_byte_vc (a0 : SV) (w : World) (post : RT [.cell (.slice)] → World → Prop) : vcF Try.prog tab Try.f24 [.cell (.slice)] [.slice a0.a a0.n a0.c] w post = f_slices_Clone_byte_byte a0 w post := by kernel_rfl
theorem slices_Clone_byte_byte_ok : okFn Try.f24 1 = true := by kernel_rfl
theorem slices_Clone_byte_byte_go {w : World} {a0 : SV} {post : RT [.cell (.slice)] → World → Prop} (h : f_slices_Clone_byte_byte a0 w post) : c_slices_Clone_byte_byte a0 w post :=
    calls_of_vc tab_ok Try.func24 (rs := [.cell (.slice)]) (av := [.slice a0.a a0.n a0.c]) slices_Clone_byte_byte_ok (Eq.mpr (slices_Clone_byte_byte_vc a0 w post) h)
/-- scarp/ival.New -/
def f_ival_New (a0 : Int) (w : World) (post : ((Option Addr)) → World → Prop) : Prop :=
  (withW (w.alloc (.cells #[.int .i64 a0, .slice none 0 0] 77)) fun w1 =>
   post ((some (⟨w.heap.size, 0, none⟩ : Addr))) w1)
theorem ival_New_vc (a0 : Int) (w : World) (post : RT [.cell (.ptr)] → World → Prop) : vcF Try.prog tab Try.f25 [.cell (.ptr)] [.int .i64 a0] w post = f_ival_New a0 w post := by kernel_rfl
theorem ival_New_ok : okFn Try.f25 1 = true := by kernel_rfl
theorem ival_New_go {w : World} {a0 : Int} {post : RT [.cell (.ptr)] → World → Prop} (h : f_ival_New a0 w post) : c_ival_New a0 w post :=
    calls_of_vc tab_ok Try.func25 (rs := [.cell (.ptr)]) (av := [.int .i64 a0]) ival_New_ok (Eq.mpr (ival_New_vc a0 w post) h)
/-- (*scarp/ival.Set).Add -/
def f_ival_Set_Add (a0 : Option Addr) (a1 : SV) (w : World) (post : Int → World → Prop) : Prop :=
  (c_ival_all a1 w fun (x1 : Bool) w2 =>
   (bsplit (!x1)
    (post (1) w2)
    ((bsplit (decide ((((a1.n : Nat) : Int) : Int) = 0))
      (post (0) w2)
      ((bsplit ((a0).isNone)
        (post (7) w2)
        ((onP a0 fun p3 =>
          (∃ s4 : SV, (w2.cell? (p3.add 1) = some (.slice s4.a s4.n s4.c)) ∧
           (withW (w2.alloc (.cells #[.slice s4.a s4.n s4.c, .slice a1.a a1.n a1.c] 23)) fun w5 =>
            (c_slices_Concat_api_Extent_api_Extent (⟨(some (⟨w2.heap.size, 0, none⟩ : Addr)), 2, 2⟩) w5 fun (x6 : SV) w7 =>
             (c_ival_joined x6 w7 fun (x8 : SV) w9 =>
              (onP a0 fun p10 =>
               (∃ n11 : Int, (w9.cell? p10 = some (.int .i64 n11)) ∧
                (bsplit (decide ((n11 : Int) < ((x8.n : Nat) : Int)))
                 (post (7) w9)
                 ((onP a0 fun p12 =>
                   ((((∃ u, w9.cell? (p12.add 1) = some u) ∧ w9.frozen? (p12.add 1) = false)) ∧ (true = true) ∧
                    (withW (w9.setCell (p12.add 1) (.slice x8.a x8.n x8.c)) fun w13 =>
                     post (0) w13)))))))))))))))))))
theorem ival_Set_Add_vc (a0 : Option Addr) (a1 : SV) (w : World) (post : RT [.cell (.int .i64)] → World → Prop) : vcF Try.prog tab Try.f26 [.cell (.int .i64)] [.pointer a0, .slice a1.a a1.n a1.c] w post = f_ival_Set_Add a0 a1 w post := by kernel_rfl
theorem ival_Set_Add_ok : okFn Try.f26 2 = true := by kernel_rfl
theorem ival_Set_Add_go {w : World} {a0 : Option Addr} {a1 : SV} {post : RT [.cell (.int .i64)] → World → Prop} (h : f_ival_Set_Add a0 a1 w post) : c_ival_Set_Add a0 a1 w post :=
    calls_of_vc tab_ok Try.func26 (rs := [.cell (.int .i64)]) (av := [.pointer a0, .slice a1.a a1.n a1.c]) ival_Set_Add_ok (Eq.mpr (ival_Set_Add_vc a0 a1 w post) h)
/-- (*scarp/scarpref11.Set).Add; loop over (t4 : Int, i : Int); loop over (out : SV, i : Int) -/
def f_scarpref11_Set_Add (a0 : Option Addr) (a1 : SV) (w : World) (post : Int → World → Prop) : Prop :=
  (loopR (α := Int × Int) (0, 0) w fun x1 w2 next3 =>
   (bsplit (decide ((x1.2 : Int) < ((a1.n : Nat) : Int)))
    ((0 ≤ (x1.2 : Int) ∧ (x1.2 : Int) < ((a1.n : Nat) : Int) ∧
      (onP a1.a fun p4 =>
       (∃ g5 : Int × Int, (w2.cell? (p4.add ((x1.2 : Int).toNat * 2)) = some (.int .i64 g5.1) ∧ w2.cell? ((p4.add ((x1.2 : Int).toNat * 2)).add 1) = some (.int .i64 g5.2)) ∧
        (c_scarpref11_May g5.1 g5.2 w2 fun (x6 : Bool) w7 =>
         (bsplit (!x6)
          (post (1) w7)
          (next3 (x1.1, (IntKind.i64.wrap (x1.2 + 1))) w7)))))))
    ((withW (w2.alloc (.cells #[] 44)) fun w8 =>
      (onP a0 fun p9 =>
       (∃ s10 : SV, (w8.cell? (p9.add 1) = some (.slice s10.a s10.n s10.c)) ∧
        (appendR (⟨(some (⟨w2.heap.size, 0, none⟩ : Addr)), 0, 0⟩) s10 2 16 [.int .i64 0, .int .i64 0] 44 w8 fun (s11 : SV) w12 =>
         (loopR (α := SV × Int) (⟨s11.a, s11.n, s11.c⟩, 0) w12 fun x13 w14 next15 =>
          (bsplit (decide ((x13.2 : Int) < ((a1.n : Nat) : Int)))
           ((0 ≤ (x13.2 : Int) ∧ (x13.2 : Int) < ((a1.n : Nat) : Int) ∧
             (onP a1.a fun p16 =>
              (∃ g17 : Int × Int, (w14.cell? (p16.add ((x13.2 : Int).toNat * 2)) = some (.int .i64 g17.1) ∧ w14.cell? ((p16.add ((x13.2 : Int).toNat * 2)).add 1) = some (.int .i64 g17.2)) ∧
               (c_scarpref11_put x13.1 g17.1 g17.2 w14 fun (x18 : SV) w19 =>
                next15 (⟨x18.a, x18.n, x18.c⟩, (IntKind.i64.wrap (x13.2 + 1))) w19)))))
           ((onP a0 fun p20 =>
             (∃ n21 : Int, (w14.cell? p20 = some (.int .i64 n21)) ∧
              (bsplit (decide (((if (0 : Int) > n21 then 0 else n21) : Int) < ((x13.1.n : Nat) : Int)))
               (post (7) w14)
               ((onP a0 fun p22 =>
                 ((((∃ u, w14.cell? (p22.add 1) = some u) ∧ w14.frozen? (p22.add 1) = false)) ∧ (true = true) ∧
                  (withW (w14.setCell (p22.add 1) (.slice x13.1.a x13.1.n x13.1.c)) fun w23 =>
                   post (0) w23)))))))))))))))))
theorem scarpref11_Set_Add_vc (a0 : Option Addr) (a1 : SV) (w : World) (post : RT [.cell (.int .i64)] → World → Prop) : vcF Try.prog tab Try.f27 [.cell (.int .i64)] [.pointer a0, .slice a1.a a1.n a1.c] w post = f_scarpref11_Set_Add a0 a1 w post := by kernel_rfl
theorem scarpref11_Set_Add_ok : okFn Try.f27 2 = true := by kernel_rfl
theorem scarpref11_Set_Add_go {w : World} {a0 : Option Addr} {a1 : SV} {post : RT [.cell (.int .i64)] → World → Prop} (h : f_scarpref11_Set_Add a0 a1 w post) : c_scarpref11_Set_Add a0 a1 w post :=
    calls_of_vc tab_ok Try.func27 (rs := [.cell (.int .i64)]) (av := [.pointer a0, .slice a1.a a1.n a1.c]) scarpref11_Set_Add_ok (Eq.mpr (scarpref11_Set_Add_vc a0 a1 w post) h)
/-- (*scarp/ival.Set).Count; loop over (n : Int, t8 : Int) -/
def f_ival_Set_Count (a0 : Option Addr) (w : World) (post : Int → World → Prop) : Prop :=
  (c_ival_Set_Extents a0 w fun (x1 : SV) w2 =>
   (loopR (α := Int × Int) (0, 0) w2 fun x3 w4 next5 =>
    (bsplit (decide ((x3.2 : Int) < ((x1.n : Nat) : Int)))
     ((0 ≤ (x3.2 : Int) ∧ (x3.2 : Int) < ((x1.n : Nat) : Int) ∧
       (onP x1.a fun p6 =>
        (∃ g7 : Int × Int, (w4.cell? (p6.add ((x3.2 : Int).toNat * 2)) = some (.int .i64 g7.1) ∧ w4.cell? ((p6.add ((x3.2 : Int).toNat * 2)).add 1) = some (.int .i64 g7.2)) ∧
         (withW (w4.alloc (.cells #[.int .i64 0, .int .i64 0] 44)) fun w8 =>
          ((((∃ u, w8.cell? (⟨w4.heap.size, 0, none⟩ : Addr) = some u) ∧ w8.frozen? (⟨w4.heap.size, 0, none⟩ : Addr) = false) ∧ ((∃ u, w8.cell? ((⟨w4.heap.size, 0, none⟩ : Addr).add 1) = some u) ∧ w8.frozen? ((⟨w4.heap.size, 0, none⟩ : Addr).add 1) = false)) ∧ (true = true) ∧
           (withW ((w8.setCell (⟨w4.heap.size, 0, none⟩ : Addr) (.int .i64 g7.1)).setCell ((⟨w4.heap.size, 0, none⟩ : Addr).add 1) (.int .i64 g7.2)) fun w9 =>
            (∃ n10 : Int, (w9.cell? ((⟨w4.heap.size, 0, none⟩ : Addr).add 1) = some (.int .i64 n10)) ∧
             (withI (IntKind.i64.wrap (x3.1 + n10)) fun i11 =>
              next5 (i11, (IntKind.i64.wrap (x3.2 + 1))) w9)))))))))
     (post (x3.1) w4))))
theorem ival_Set_Count_vc (a0 : Option Addr) (w : World) (post : RT [.cell (.int .i64)] → World → Prop) : vcF Try.prog tab Try.f28 [.cell (.int .i64)] [.pointer a0] w post = f_ival_Set_Count a0 w post := by kernel_rfl
theorem ival_Set_Count_ok : okFn Try.f28 1 = true := by kernel_rfl
theorem ival_Set_Count_go {w : World} {a0 : Option Addr} {post : RT [.cell (.int .i64)] → World → Prop} (h : f_ival_Set_Count a0 w post) : c_ival_Set_Count a0 w post :=
    calls_of_vc tab_ok Try.func28 (rs := [.cell (.int .i64)]) (av := [.pointer a0]) ival_Set_Count_ok (Eq.mpr (ival_Set_Count_vc a0 w post) h)
/-- (*scarp/ival.Set).Extents -/
def f_ival_Set_Extents (a0 : Option Addr) (w : World) (post : SV → World → Prop) : Prop :=
  (bsplit ((a0).isNone)
   (post (⟨none, 0, 0⟩) w)
   ((onP a0 fun p1 =>
     (∃ s2 : SV, (w.cell? (p1.add 1) = some (.slice s2.a s2.n s2.c)) ∧
      (c_slices_Clone_api_Extent_api_Extent s2 w fun (x3 : SV) w4 =>
       post (⟨x3.a, x3.n, x3.c⟩) w4)))))
theorem ival_Set_Extents_vc (a0 : Option Addr) (w : World) (post : RT [.cell (.slice)] → World → Prop) : vcF Try.prog tab Try.f29 [.cell (.slice)] [.pointer a0] w post = f_ival_Set_Extents a0 w post := by kernel_rfl
theorem ival_Set_Extents_ok : okFn Try.f29 1 = true := by kernel_rfl
theorem ival_Set_Extents_go {w : World} {a0 : Option Addr} {post : RT [.cell (.slice)] → World → Prop} (h : f_ival_Set_Extents a0 w post) : c_ival_Set_Extents a0 w post :=
    calls_of_vc tab_ok Try.func29 (rs := [.cell (.slice)]) (av := [.pointer a0]) ival_Set_Extents_ok (Eq.mpr (ival_Set_Extents_vc a0 w post) h)
/-- (*scarp/extmap.Map).Written; loop over (t6 : Bool); loop over (t6 : Bool) -/
def f_extmap_Map_Written (a0 : Option Addr) (a1c0 : Int) (a1c1 : Int) (a2 : Int) (w : World) (post : Bool → World → Prop) : Prop :=
  (withW (w.alloc (.cells #[.int .i64 a1c0, .int .i64 a1c1] 44)) fun w1 =>
   (c_extmap_Map_gone a0 w1 fun (x2 : Bool) w3 =>
    (bsplit x2
     (post (false) w3)
     ((∃ n4 : Int, (w3.cell? (⟨w.heap.size, 0, none⟩ : Addr) = some (.int .i64 n4)) ∧
       (bsplit (decide ((n4 : Int) < 0))
        (post (false) w3)
        ((∃ n5 : Int, (w3.cell? (⟨w.heap.size, 0, none⟩ : Addr) = some (.int .i64 n5)) ∧
          (bsplit (decide ((1048576 : Int) < n5))
           (post (false) w3)
           ((∃ n6 : Int, (w3.cell? ((⟨w.heap.size, 0, none⟩ : Addr).add 1) = some (.int .i64 n6)) ∧
             (bsplit (decide ((n6 : Int) < 1))
              (post (false) w3)
              ((∃ n7 : Int, (w3.cell? ((⟨w.heap.size, 0, none⟩ : Addr).add 1) = some (.int .i64 n7)) ∧
                (∃ n8 : Int, (w3.cell? (⟨w.heap.size, 0, none⟩ : Addr) = some (.int .i64 n8)) ∧
                 (bsplit (decide (((IntKind.i64.wrap (1048577 - n8)) : Int) < n7))
                  (post (false) w3)
                  ((∃ n9 : Int, (w3.cell? ((⟨w.heap.size, 0, none⟩ : Addr).add 1) = some (.int .i64 n9)) ∧
                    (bsplit (decide ((1048576 : Int) < n9))
                     (post (false) w3)
                     ((onP a0 fun p10 =>
                       (∃ r11 : Option Nat, (w3.cell? (p10.add 1) = some (.map r11)) ∧
                        (onM r11 ((withW (w3.alloc (.mapIter none 0 #[] 0)) fun w13 =>
                           (loopR (α := Bool) (false) w13 fun x14 w15 next16 =>
                            ((⟨w3.heap.size, 0, none⟩ : Addr).off = 0 ∧ ∃ (m17 : Option Nat) (si18 : Nat) (se19 : Array Nat) (st20 : Nat), w15.heap[(⟨w3.heap.size, 0, none⟩ : Addr).block]? = some (.mapIter m17 si18 se19 st20) ∧
                             (onM m17 (post (false) w15) fun m21 =>
                              (∃ (es22 : List En) (cl23 : Nat), mapAt w15 m21 .i64 es22 cl23 ∧ (se19 = #[] ∨ es22 = [] ∨ ∃ e ∈ es22, e.b < st20) ∧
                               (∀ e24 ∈ es22, e24.b ∉ se19 → ∀ w25, (w25 = w15 ∨ w25 = w15.drew) →
                                (withW (World.setObj w25 (⟨w3.heap.size, 0, none⟩ : Addr).block (.mapIter (some m21) si18 (se19.push e24.b) cl23)) fun w27 =>
                                 ((⟨w3.heap.size, 0, none⟩ : Addr).off = 0 ∧ ∃ (m28 si29 : Nat) (se30 : Array Nat) (st31 : Nat), w27.heap[(⟨w3.heap.size, 0, none⟩ : Addr).block]? = some (.mapIter (some m28) si29 se30 st31) ∧ ∃ (es32 : List En), mapAt w27 m28 .i64 es32 st31 ∧ ∃ e33, se30.back? = some e33.b ∧ e33 ∈ es32 ∧ (∀ f ∈ es32, f.b = e33.b → f = e33) ∧ ∃ x34 : SV, e33.v = .slice x34.a x34.n x34.c ∧
                                  (∃ n35 : Int, (w27.cell? (⟨w.heap.size, 0, none⟩ : Addr) = some (.int .i64 n35)) ∧
                                   (bsplit (decide ((n35 : Int) ≤ e33.k))
                                    ((∃ n36 : Int, (w27.cell? (⟨w.heap.size, 0, none⟩ : Addr) = some (.int .i64 n36)) ∧
                                      (∃ n37 : Int, (w27.cell? ((⟨w.heap.size, 0, none⟩ : Addr).add 1) = some (.int .i64 n37)) ∧
                                       (bsplit (decide (((IntKind.i64.wrap (e33.k - n36)) : Int) < n37))
                                        ((0 ≤ ((IntKind.i64.wrap (((x34.n : Nat) : Int) - 1)) : Int) ∧ ((IntKind.i64.wrap (((x34.n : Nat) : Int) - 1)) : Int) < ((x34.n : Nat) : Int) ∧
                                        (onP x34.a fun p38 =>
                                        (∃ n39 : Int, (w27.cell? (p38.add (((IntKind.i64.wrap (((x34.n : Nat) : Int) - 1)) : Int).toNat * 2)) = some (.int .i64 n39)) ∧
                                        (bsplit (decide ((a2 : Int) < n39))
                                        (post (true) w27)
                                        (next16 (x14) w27))))))
                                        (next16 (x14) w27)))))
                                    (next16 (x14) w27)))))) ∧
                               ((∀ e ∈ es22, e.b < si18 → e.b ∈ se19) → ∀ w26, (w26 = w15 ∨ w26 = w15.drew) →
                                post (false) w26))))))) fun m12 =>
                         (∃ es40 cl41, w3.heap[m12]? = some (.map es40 cl41) ∧
                          (withW (w3.alloc (.mapIter (some m12) cl41 #[] cl41)) fun w42 =>
                           (loopR (α := Bool) (false) w42 fun x43 w44 next45 =>
                            ((⟨w3.heap.size, 0, none⟩ : Addr).off = 0 ∧ ∃ (m46 : Option Nat) (si47 : Nat) (se48 : Array Nat) (st49 : Nat), w44.heap[(⟨w3.heap.size, 0, none⟩ : Addr).block]? = some (.mapIter m46 si47 se48 st49) ∧
                             (onM m46 (post (false) w44) fun m50 =>
                              (∃ (es51 : List En) (cl52 : Nat), mapAt w44 m50 .i64 es51 cl52 ∧ (se48 = #[] ∨ es51 = [] ∨ ∃ e ∈ es51, e.b < st49) ∧
                               (∀ e53 ∈ es51, e53.b ∉ se48 → ∀ w54, (w54 = w44 ∨ w54 = w44.drew) →
                                (withW (World.setObj w54 (⟨w3.heap.size, 0, none⟩ : Addr).block (.mapIter (some m50) si47 (se48.push e53.b) cl52)) fun w56 =>
                                 ((⟨w3.heap.size, 0, none⟩ : Addr).off = 0 ∧ ∃ (m57 si58 : Nat) (se59 : Array Nat) (st60 : Nat), w56.heap[(⟨w3.heap.size, 0, none⟩ : Addr).block]? = some (.mapIter (some m57) si58 se59 st60) ∧ ∃ (es61 : List En), mapAt w56 m57 .i64 es61 st60 ∧ ∃ e62, se59.back? = some e62.b ∧ e62 ∈ es61 ∧ (∀ f ∈ es61, f.b = e62.b → f = e62) ∧ ∃ x63 : SV, e62.v = .slice x63.a x63.n x63.c ∧
                                  (∃ n64 : Int, (w56.cell? (⟨w.heap.size, 0, none⟩ : Addr) = some (.int .i64 n64)) ∧
                                   (bsplit (decide ((n64 : Int) ≤ e62.k))
                                    ((∃ n65 : Int, (w56.cell? (⟨w.heap.size, 0, none⟩ : Addr) = some (.int .i64 n65)) ∧
                                      (∃ n66 : Int, (w56.cell? ((⟨w.heap.size, 0, none⟩ : Addr).add 1) = some (.int .i64 n66)) ∧
                                       (bsplit (decide (((IntKind.i64.wrap (e62.k - n65)) : Int) < n66))
                                        ((0 ≤ ((IntKind.i64.wrap (((x63.n : Nat) : Int) - 1)) : Int) ∧ ((IntKind.i64.wrap (((x63.n : Nat) : Int) - 1)) : Int) < ((x63.n : Nat) : Int) ∧
                                        (onP x63.a fun p67 =>
                                        (∃ n68 : Int, (w56.cell? (p67.add (((IntKind.i64.wrap (((x63.n : Nat) : Int) - 1)) : Int).toNat * 2)) = some (.int .i64 n68)) ∧
                                        (bsplit (decide ((a2 : Int) < n68))
                                        (post (true) w56)
                                        (next45 (x43) w56))))))
                                        (next45 (x43) w56)))))
                                    (next45 (x43) w56)))))) ∧
                               ((∀ e ∈ es51, e.b < si47 → e.b ∈ se48) → ∀ w55, (w55 = w44 ∨ w55 = w44.drew) →
                                post (false) w55))))))))))))))))))))))))))))))
theorem extmap_Map_Written_vc (a0 : Option Addr) (a1c0 : Int) (a1c1 : Int) (a2 : Int) (w : World) (post : RT [.cell (.bool)] → World → Prop) : vcF Try.prog tab Try.f30 [.cell (.bool)] [.pointer a0, .agg #[.int .i64 a1c0, .int .i64 a1c1], .int .i64 a2] w post = f_extmap_Map_Written a0 a1c0 a1c1 a2 w post := by kernel_rfl
theorem extmap_Map_Written_ok : okFn Try.f30 3 = true := by kernel_rfl
theorem extmap_Map_Written_go {w : World} {a0 : Option Addr} {a1c0 : Int} {a1c1 : Int} {a2 : Int} {post : RT [.cell (.bool)] → World → Prop} (h : f_extmap_Map_Written a0 a1c0 a1c1 a2 w post) : c_extmap_Map_Written a0 a1c0 a1c1 a2 w post :=
    calls_of_vc tab_ok Try.func30 (rs := [.cell (.bool)]) (av := [.pointer a0, .agg #[.int .i64 a1c0, .int .i64 a1c1], .int .i64 a2]) extmap_Map_Written_ok (Eq.mpr (extmap_Map_Written_vc a0 a1c0 a1c1 a2 w post) h)
/-- scarp/valid.Against -/
def f_valid_Against (a0c0 : Int) (a0c1 : SV) (a1 : Option Addr) (w : World) (post : Bool → World → Prop) : Prop :=
  (withW (w.alloc (.cells #[.int .i64 a0c0, .slice a0c1.a a0c1.n a0c1.c] 33)) fun w1 =>
   (withW (w1.alloc (.cells #[.pointer a1] 34)) fun w2 =>
    (∃ s3 : SV, (w2.cell? ((⟨w.heap.size, 0, none⟩ : Addr).add 1) = some (.slice s3.a s3.n s3.c)) ∧
     (c_slices_ContainsFunc_api_Put_api_Put_at_valid_Against_1 s3 (some (⟨w1.heap.size, 0, none⟩ : Addr)) w2 fun (x4 : Bool) w5 =>
      post (x4) w5))))
theorem valid_Against_vc (a0c0 : Int) (a0c1 : SV) (a1 : Option Addr) (w : World) (post : RT [.cell (.bool)] → World → Prop) : vcF Try.prog tab Try.f31 [.cell (.bool)] [.agg #[.int .i64 a0c0, .slice a0c1.a a0c1.n a0c1.c], .pointer a1] w post = f_valid_Against a0c0 a0c1 a1 w post := by kernel_rfl
theorem valid_Against_ok : okFn Try.f31 2 = true := by kernel_rfl
theorem valid_Against_go {w : World} {a0c0 : Int} {a0c1 : SV} {a1 : Option Addr} {post : RT [.cell (.bool)] → World → Prop} (h : f_valid_Against a0c0 a0c1 a1 w post) : c_valid_Against a0c0 a0c1 a1 w post :=
    calls_of_vc tab_ok Try.func31 (rs := [.cell (.bool)]) (av := [.agg #[.int .i64 a0c0, .slice a0c1.a a0c1.n a0c1.c], .pointer a1]) valid_Against_ok (Eq.mpr (valid_Against_vc a0c0 a0c1 a1 w post) h)
/-- scarp/scarpalike.Puts; loop over (n : Int, i : Int) -/
def f_scarpalike_Puts (a0 : SV) (a1 : Int) (w : World) (post : Int → World → Prop) : Prop :=
  (withW (w.alloc (.cells #[.int .i64 ((a0.n : Nat) : Int)] 3)) fun w1 =>
   (c_scarpalike_Sum 0 (⟨(some (⟨w.heap.size, 0, none⟩ : Addr)), 1, 1⟩) w1 fun (x2 : Int) w3 =>
    (loopR (α := Int × Int) (x2, 0) w3 fun x4 w5 next6 =>
     (bsplit (decide ((x4.2 : Int) < ((a0.n : Nat) : Int)))
      ((bsplit (decide ((x4.1 : Int) ≤ a1))
        ((0 ≤ (x4.2 : Int) ∧ (x4.2 : Int) < ((a0.n : Nat) : Int) ∧
          (onP a0.a fun p7 =>
           (∃ s8 : SV, (w5.cell? ((p7.add ((x4.2 : Int).toNat * 2)).add 1) = some (.slice s8.a s8.n s8.c)) ∧
            (withW (w5.alloc (.cells #[.int .i64 ((s8.n : Nat) : Int)] 3)) fun w9 =>
             (c_scarpalike_Sum x4.1 (⟨(some (⟨w5.heap.size, 0, none⟩ : Addr)), 1, 1⟩) w9 fun (x10 : Int) w11 =>
              next6 (x10, (IntKind.i64.wrap (x4.2 + 1))) w11))))))
        (post (x4.1) w5)))
      (post (x4.1) w5)))))
theorem scarpalike_Puts_vc (a0 : SV) (a1 : Int) (w : World) (post : RT [.cell (.int .i64)] → World → Prop) : vcF Try.prog tab Try.f32 [.cell (.int .i64)] [.slice a0.a a0.n a0.c, .int .i64 a1] w post = f_scarpalike_Puts a0 a1 w post := by kernel_rfl
theorem scarpalike_Puts_ok : okFn Try.f32 2 = true := by kernel_rfl
theorem scarpalike_Puts_go {w : World} {a0 : SV} {a1 : Int} {post : RT [.cell (.int .i64)] → World → Prop} (h : f_scarpalike_Puts a0 a1 w post) : c_scarpalike_Puts a0 a1 w post :=
    calls_of_vc tab_ok Try.func32 (rs := [.cell (.int .i64)]) (av := [.slice a0.a a0.n a0.c, .int .i64 a1]) scarpalike_Puts_ok (Eq.mpr (scarpalike_Puts_vc a0 a1 w post) h)
/-- scarp/scarpalike.Block; loop over (i : Int) -/
def f_scarpalike_Block (a0 : Int) (a1 : Int) (w : World) (post : SV → World → Prop) : Prop :=
  (0 ≤ ((if (0 : Int) > a0 then 0 else a0) : Int) ∧ ((if (0 : Int) > a0 then 0 else a0) : Int) ≤ (if (0 : Int) > a0 then 0 else a0) ∧ ((1 : Nat) : Int) * (if (0 : Int) > a0 then 0 else a0) ≤ 2 ^ 48 ∧ ((if (0 : Int) > a0 then 0 else a0) : Int) ≤ 2 ^ 48 ∧
   (withW (w.alloc (.cells (zrow [.int .u8 0] ((if (0 : Int) > a0 then 0 else a0) : Int).toNat).toArray 5)) fun w1 =>
    (loopR (α := Int) (0) w1 fun x2 w3 next4 =>
     (bsplit (decide ((x2 : Int) < (((((if (0 : Int) > a0 then 0 else a0) : Int).toNat) : Nat) : Int)))
      ((c_scarpalike_Round (IntKind.i64.wrap ((IntKind.i64.wrap ((IntKind.i64.wrap (x2 * x2)) + (IntKind.i64.wrap (a1 * 7)))) + 1)) 251 w3 fun (x5 : Int) w6 =>
        (0 ≤ (x2 : Int) ∧ (x2 : Int) < (((((if (0 : Int) > a0 then 0 else a0) : Int).toNat) : Nat) : Int) ∧
         ((((∃ u, w6.cell? ((⟨w.heap.size, 0, none⟩ : Addr).add ((x2 : Int).toNat * 1)) = some u) ∧ w6.frozen? ((⟨w.heap.size, 0, none⟩ : Addr).add ((x2 : Int).toNat * 1)) = false)) ∧ (true = true) ∧
          (withW (w6.setCell ((⟨w.heap.size, 0, none⟩ : Addr).add ((x2 : Int).toNat * 1)) (.int .u8 (IntKind.u8.wrap x5))) fun w7 =>
           next4 ((IntKind.i64.wrap (x2 + 1))) w7)))))
      (post (⟨(some (⟨w.heap.size, 0, none⟩ : Addr)), (((if (0 : Int) > a0 then 0 else a0) : Int).toNat), (((if (0 : Int) > a0 then 0 else a0) : Int).toNat)⟩) w3)))))
theorem scarpalike_Block_vc (a0 : Int) (a1 : Int) (w : World) (post : RT [.cell (.slice)] → World → Prop) : vcF Try.prog tab Try.f33 [.cell (.slice)] [.int .i64 a0, .int .i64 a1] w post = f_scarpalike_Block a0 a1 w post := by kernel_rfl
theorem scarpalike_Block_ok : okFn Try.f33 2 = true := by kernel_rfl
theorem scarpalike_Block_go {w : World} {a0 : Int} {a1 : Int} {post : RT [.cell (.slice)] → World → Prop} (h : f_scarpalike_Block a0 a1 w post) : c_scarpalike_Block a0 a1 w post :=
    calls_of_vc tab_ok Try.func33 (rs := [.cell (.slice)]) (av := [.int .i64 a0, .int .i64 a1]) scarpalike_Block_ok (Eq.mpr (scarpalike_Block_vc a0 a1 w post) h)
/-- (*scarp/extmap.Map).Blocks -/
def f_extmap_Map_Blocks (a0 : Option Addr) (w : World) (post : Int → World → Prop) : Prop :=
  (bsplit ((a0).isNone)
   (post (0) w)
   ((onP a0 fun p1 =>
     (∃ n2 : Int, (w.cell? p1 = some (.int .i64 n2)) ∧
      post (n2) w))))
theorem extmap_Map_Blocks_vc (a0 : Option Addr) (w : World) (post : RT [.cell (.int .i64)] → World → Prop) : vcF Try.prog tab Try.f34 [.cell (.int .i64)] [.pointer a0] w post = f_extmap_Map_Blocks a0 w post := by kernel_rfl
theorem extmap_Map_Blocks_ok : okFn Try.f34 1 = true := by kernel_rfl
theorem extmap_Map_Blocks_go {w : World} {a0 : Option Addr} {post : RT [.cell (.int .i64)] → World → Prop} (h : f_extmap_Map_Blocks a0 w post) : c_extmap_Map_Blocks a0 w post :=
    calls_of_vc tab_ok Try.func34 (rs := [.cell (.int .i64)]) (av := [.pointer a0]) extmap_Map_Blocks_ok (Eq.mpr (extmap_Map_Blocks_vc a0 w post) h)
/-- slices.IndexFunc[[]scarp/api.Put,scarp/api.Put]; loop over (t4 : Int, t8 : Int) -/
def f_slices_IndexFunc_api_Put_api_Put_at_extmap_Map_Apply_1 (a0 : SV) (w : World) (post : Int → World → Prop) : Prop :=
  (loopR (α := Int × Int) (0, 0) w fun x1 w2 next3 =>
   (bsplit (decide ((x1.2 : Int) < ((a0.n : Nat) : Int)))
    ((0 ≤ (x1.2 : Int) ∧ (x1.2 : Int) < ((a0.n : Nat) : Int) ∧
      (onP a0.a fun p4 =>
       (∃ g5 : Int × SV, (w2.cell? (p4.add ((x1.2 : Int).toNat * 2)) = some (.int .i64 g5.1) ∧ w2.cell? ((p4.add ((x1.2 : Int).toNat * 2)).add 1) = some (.slice g5.2.a g5.2.n g5.2.c)) ∧
        (c_extmap_Map_Apply_1 g5.1 g5.2 w2 fun (x6 : Bool) w7 =>
         (bsplit x6
          (post (x1.2) w7)
          (next3 (x1.1, (IntKind.i64.wrap (x1.2 + 1))) w7)))))))
    (post ((-1)) w2)))
theorem slices_IndexFunc_api_Put_api_Put_at_extmap_Map_Apply_1_vc (a0 : SV) (w : World) (post : RT [.cell (.int .i64)] → World → Prop) : vcF Try.prog tab Try.f35 [.cell (.int .i64)] [.slice a0.a a0.n a0.c, .func (.func 23) #[] #[]] w post = f_slices_IndexFunc_api_Put_api_Put_at_extmap_Map_Apply_1 a0 w post := by kernel_rfl
theorem slices_IndexFunc_api_Put_api_Put_at_extmap_Map_Apply_1_ok : okFn Try.f35 2 = true := by kernel_rfl
theorem slices_IndexFunc_api_Put_api_Put_at_extmap_Map_Apply_1_go {w : World} {a0 : SV} {post : RT [.cell (.int .i64)] → World → Prop} (h : f_slices_IndexFunc_api_Put_api_Put_at_extmap_Map_Apply_1 a0 w post) : c_slices_IndexFunc_api_Put_api_Put_at_extmap_Map_Apply_1 a0 w post :=
    calls_of_vc tab_ok Try.func35 (rs := [.cell (.int .i64)]) (av := [.slice a0.a a0.n a0.c, .func (.func 23) #[] #[]]) slices_IndexFunc_api_Put_api_Put_at_extmap_Map_Apply_1_ok (Eq.mpr (slices_IndexFunc_api_Put_api_Put_at_extmap_Map_Apply_1_vc a0 w post) h)
/-- slices.IndexFunc[[]scarp/api.Put,scarp/api.Put]; loop over (t4 : Int, t8 : Int) -/
def f_slices_IndexFunc_api_Put_api_Put_at_valid_Against_1 (a0 : SV) (a1c0 : Option Addr) (w : World) (post : Int → World → Prop) : Prop :=
  (loopR (α := Int × Int) (0, 0) w fun x1 w2 next3 =>
   (bsplit (decide ((x1.2 : Int) < ((a0.n : Nat) : Int)))
    ((0 ≤ (x1.2 : Int) ∧ (x1.2 : Int) < ((a0.n : Nat) : Int) ∧
      (onP a0.a fun p4 =>
       (∃ g5 : Int × SV, (w2.cell? (p4.add ((x1.2 : Int).toNat * 2)) = some (.int .i64 g5.1) ∧ w2.cell? ((p4.add ((x1.2 : Int).toNat * 2)).add 1) = some (.slice g5.2.a g5.2.n g5.2.c)) ∧
        (c_valid_Against_1 g5.1 g5.2 a1c0 w2 fun (x6 : Bool) w7 =>
         (bsplit x6
          (post (x1.2) w7)
          (next3 (x1.1, (IntKind.i64.wrap (x1.2 + 1))) w7)))))))
    (post ((-1)) w2)))
theorem slices_IndexFunc_api_Put_api_Put_at_valid_Against_1_vc (a0 : SV) (a1c0 : Option Addr) (w : World) (post : RT [.cell (.int .i64)] → World → Prop) : vcF Try.prog tab Try.f35 [.cell (.int .i64)] [.slice a0.a a0.n a0.c, .func (.func 42) #[] #[.pointer a1c0]] w post = f_slices_IndexFunc_api_Put_api_Put_at_valid_Against_1 a0 a1c0 w post := by kernel_rfl
theorem slices_IndexFunc_api_Put_api_Put_at_valid_Against_1_ok : okFn Try.f35 2 = true := by kernel_rfl
theorem slices_IndexFunc_api_Put_api_Put_at_valid_Against_1_go {w : World} {a0 : SV} {a1c0 : Option Addr} {post : RT [.cell (.int .i64)] → World → Prop} (h : f_slices_IndexFunc_api_Put_api_Put_at_valid_Against_1 a0 a1c0 w post) : c_slices_IndexFunc_api_Put_api_Put_at_valid_Against_1 a0 a1c0 w post :=
    calls_of_vc tab_ok Try.func35 (rs := [.cell (.int .i64)]) (av := [.slice a0.a a0.n a0.c, .func (.func 42) #[] #[.pointer a1c0]]) slices_IndexFunc_api_Put_api_Put_at_valid_Against_1_ok (Eq.mpr (slices_IndexFunc_api_Put_api_Put_at_valid_Against_1_vc a0 a1c0 w post) h)
/-- scarp/ival.all -/
def f_ival_all (a0 : SV) (w : World) (post : Bool → World → Prop) : Prop :=
  (c_slices_ContainsFunc_api_Extent_api_Extent_at_ival_all_1 a0 w fun (x1 : Bool) w2 =>
   post ((!x1)) w2)
theorem ival_all_vc (a0 : SV) (w : World) (post : RT [.cell (.bool)] → World → Prop) : vcF Try.prog tab Try.f36 [.cell (.bool)] [.slice a0.a a0.n a0.c] w post = f_ival_all a0 w post := by kernel_rfl
theorem ival_all_ok : okFn Try.f36 1 = true := by kernel_rfl
theorem ival_all_go {w : World} {a0 : SV} {post : RT [.cell (.bool)] → World → Prop} (h : f_ival_all a0 w post) : c_ival_all a0 w post :=
    calls_of_vc tab_ok Try.func36 (rs := [.cell (.bool)]) (av := [.slice a0.a a0.n a0.c]) ival_all_ok (Eq.mpr (ival_all_vc a0 w post) h)
/-- scarp/ival.joined; loop over (out : SV, t12 : Int) -/
def f_ival_joined (a0 : SV) (w : World) (post : SV → World → Prop) : Prop :=
  (c_slices_Clone_api_Extent_api_Extent a0 w fun (x1 : SV) w2 =>
   (c_slices_SortFunc_api_Extent_api_Extent_at_ival_joined_1 x1 w2 fun (x3 : Unit) w4 =>
    (loopR (α := SV × Int) (⟨none, 0, 0⟩, 0) w4 fun x5 w6 next7 =>
     (bsplit (decide ((x5.2 : Int) < ((x1.n : Nat) : Int)))
      ((0 ≤ (x5.2 : Int) ∧ (x5.2 : Int) < ((x1.n : Nat) : Int) ∧
        (onP x1.a fun p8 =>
         (∃ g9 : Int × Int, (w6.cell? (p8.add ((x5.2 : Int).toNat * 2)) = some (.int .i64 g9.1) ∧ w6.cell? ((p8.add ((x5.2 : Int).toNat * 2)).add 1) = some (.int .i64 g9.2)) ∧
          (withW (w6.alloc (.cells #[.int .i64 0, .int .i64 0] 44)) fun w10 =>
           ((((∃ u, w10.cell? (⟨w6.heap.size, 0, none⟩ : Addr) = some u) ∧ w10.frozen? (⟨w6.heap.size, 0, none⟩ : Addr) = false) ∧ ((∃ u, w10.cell? ((⟨w6.heap.size, 0, none⟩ : Addr).add 1) = some u) ∧ w10.frozen? ((⟨w6.heap.size, 0, none⟩ : Addr).add 1) = false)) ∧ (true = true) ∧
            (withW ((w10.setCell (⟨w6.heap.size, 0, none⟩ : Addr) (.int .i64 g9.1)).setCell ((⟨w6.heap.size, 0, none⟩ : Addr).add 1) (.int .i64 g9.2)) fun w11 =>
             (withI (IntKind.i64.wrap (((x5.1.n : Nat) : Int) - 1)) fun i12 =>
              (withW w11.drew fun w13 =>
               (bsplit (decide ((0 : Int) ≤ i12))
                ((∃ n14 : Int, (w13.cell? (⟨w6.heap.size, 0, none⟩ : Addr) = some (.int .i64 n14)) ∧
                  (0 ≤ (i12 : Int) ∧ (i12 : Int) < ((x5.1.n : Nat) : Int) ∧
                   (onP x5.1.a fun p15 =>
                    (∃ n16 : Int, (w13.cell? (p15.add ((i12 : Int).toNat * 2)) = some (.int .i64 n16)) ∧
                     (0 ≤ (i12 : Int) ∧ (i12 : Int) < ((x5.1.n : Nat) : Int) ∧
                      (onP x5.1.a fun p17 =>
                       (∃ n18 : Int, (w13.cell? ((p17.add ((i12 : Int).toNat * 2)).add 1) = some (.int .i64 n18)) ∧
                        (bsplit (decide ((n14 : Int) ≤ (IntKind.i64.wrap (n16 + n18))))
                         ((withW w13.drew fun w20 =>
                           (∃ S19 : World → Prop, S19 w20 ∧
                            (0 ≤ (i12 : Int) ∧ (i12 : Int) < ((x5.1.n : Nat) : Int) ∧
                             (onP x5.1.a fun p21 =>
                              (∃ n22 : Int, ((∀ w23, S19 w23 → w23.cell? ((p21.add ((i12 : Int).toNat * 2)).add 1) = some (.int .i64 n22))) ∧
                               (∃ n24 : Int, ((∀ w25, S19 w25 → w25.cell? (⟨w6.heap.size, 0, none⟩ : Addr) = some (.int .i64 n24))) ∧
                                (∃ n26 : Int, ((∀ w27, S19 w27 → w27.cell? ((⟨w6.heap.size, 0, none⟩ : Addr).add 1) = some (.int .i64 n26))) ∧
                                 (0 ≤ (i12 : Int) ∧ (i12 : Int) < ((x5.1.n : Nat) : Int) ∧
                                  (onP x5.1.a fun p28 =>
                                   (∃ n29 : Int, ((∀ w30, S19 w30 → w30.cell? (p28.add ((i12 : Int).toNat * 2)) = some (.int .i64 n29))) ∧
                                    (0 ≤ (i12 : Int) ∧ (i12 : Int) < ((x5.1.n : Nat) : Int) ∧
                                     (onP x5.1.a fun p31 =>
                                      ((((∃ u, w20.cell? ((p31.add ((i12 : Int).toNat * 2)).add 1) = some u) ∧ w20.frozen? ((p31.add ((i12 : Int).toNat * 2)).add 1) = false)) ∧ (true = true) ∧
                                       (withW (w20.setCell ((p31.add ((i12 : Int).toNat * 2)).add 1) (.int .i64 (if ((IntKind.i64.wrap ((IntKind.i64.wrap (n24 + n26)) - n29)) : Int) > n22 then (IntKind.i64.wrap ((IntKind.i64.wrap (n24 + n26)) - n29)) else n22))) fun w32 =>
                                        next7 (⟨x5.1.a, x5.1.n, x5.1.c⟩, (IntKind.i64.wrap (x5.2 + 1))) w32)))))))))))))))
                         ((∃ g33 : Int × Int, (w13.cell? (⟨w6.heap.size, 0, none⟩ : Addr) = some (.int .i64 g33.1) ∧ w13.cell? ((⟨w6.heap.size, 0, none⟩ : Addr).add 1) = some (.int .i64 g33.2)) ∧
                           (withW (w13.alloc (.cells #[.int .i64 g33.1, .int .i64 g33.2] 44)) fun w34 =>
                            (appendR x5.1 (⟨(some (⟨w13.heap.size, 0, none⟩ : Addr)), 1, 1⟩) 2 16 [.int .i64 0, .int .i64 0] 44 w34 fun (s35 : SV) w36 =>
                             next7 (⟨s35.a, s35.n, s35.c⟩, (IntKind.i64.wrap (x5.2 + 1))) w36)))))))))))))
                ((∃ g37 : Int × Int, (w13.cell? (⟨w6.heap.size, 0, none⟩ : Addr) = some (.int .i64 g37.1) ∧ w13.cell? ((⟨w6.heap.size, 0, none⟩ : Addr).add 1) = some (.int .i64 g37.2)) ∧
                  (withW (w13.alloc (.cells #[.int .i64 g37.1, .int .i64 g37.2] 44)) fun w38 =>
                   (appendR x5.1 (⟨(some (⟨w13.heap.size, 0, none⟩ : Addr)), 1, 1⟩) 2 16 [.int .i64 0, .int .i64 0] 44 w38 fun (s39 : SV) w40 =>
                    next7 (⟨s39.a, s39.n, s39.c⟩, (IntKind.i64.wrap (x5.2 + 1))) w40))))))))))))))
      (post (⟨x5.1.a, x5.1.n, x5.1.c⟩) w6)))))
theorem ival_joined_vc (a0 : SV) (w : World) (post : RT [.cell (.slice)] → World → Prop) : vcF Try.prog tab Try.f37 [.cell (.slice)] [.slice a0.a a0.n a0.c] w post = f_ival_joined a0 w post := by kernel_rfl
theorem ival_joined_ok : okFn Try.f37 1 = true := by kernel_rfl
theorem ival_joined_go {w : World} {a0 : SV} {post : RT [.cell (.slice)] → World → Prop} (h : f_ival_joined a0 w post) : c_ival_joined a0 w post :=
    calls_of_vc tab_ok Try.func37 (rs := [.cell (.slice)]) (av := [.slice a0.a a0.n a0.c]) ival_joined_ok (Eq.mpr (ival_joined_vc a0 w post) h)
/-- slices.Concat[[]scarp/api.Extent,scarp/api.Extent]; loop over (size : Int, t11 : Int); loop over (newslice : SV, t27 : Int) -/
def f_slices_Concat_api_Extent_api_Extent (a0 : SV) (w : World) (post : SV → World → Prop) : Prop :=
  (loopR (α := Int × Int) (0, 0) w fun x1 w2 next3 =>
   (bsplit (decide ((x1.2 : Int) < ((a0.n : Nat) : Int)))
    ((0 ≤ (x1.2 : Int) ∧ (x1.2 : Int) < ((a0.n : Nat) : Int) ∧
      (onP a0.a fun p4 =>
       (∃ s5 : SV, (w2.cell? (p4.add ((x1.2 : Int).toNat * 1)) = some (.slice s5.a s5.n s5.c)) ∧
        (withI (IntKind.i64.wrap (x1.1 + ((s5.n : Nat) : Int))) fun i6 =>
         (bsplit (decide ((i6 : Int) < 0))
          (False)
          (next3 (i6, (IntKind.i64.wrap (x1.2 + 1))) w2)))))))
    ((c_slices_Grow_api_Extent_api_Extent (⟨none, 0, 0⟩) x1.1 w2 fun (x7 : SV) w8 =>
      (loopR (α := SV × Int) (⟨x7.a, x7.n, x7.c⟩, 0) w8 fun x9 w10 next11 =>
       (bsplit (decide ((x9.2 : Int) < ((a0.n : Nat) : Int)))
        ((0 ≤ (x9.2 : Int) ∧ (x9.2 : Int) < ((a0.n : Nat) : Int) ∧
          (onP a0.a fun p12 =>
           (∃ s13 : SV, (w10.cell? (p12.add ((x9.2 : Int).toNat * 1)) = some (.slice s13.a s13.n s13.c)) ∧
            (appendR x9.1 s13 2 16 [.int .i64 0, .int .i64 0] 44 w10 fun (s14 : SV) w15 =>
             next11 (⟨s14.a, s14.n, s14.c⟩, (IntKind.i64.wrap (x9.2 + 1))) w15)))))
        (post (⟨x9.1.a, x9.1.n, x9.1.c⟩) w10)))))))
theorem slices_Concat_api_Extent_api_Extent_vc (a0 : SV) (w : World) (post : RT [.cell (.slice)] → World → Prop) : vcF Try.prog tab Try.f38 [.cell (.slice)] [.slice a0.a a0.n a0.c] w post = f_slices_Concat_api_Extent_api_Extent a0 w post := by kernel_rfl
theorem slices_Concat_api_Extent_api_Extent_ok : okFn Try.f38 1 = true := by kernel_rfl
theorem slices_Concat_api_Extent_api_Extent_go {w : World} {a0 : SV} {post : RT [.cell (.slice)] → World → Prop} (h : f_slices_Concat_api_Extent_api_Extent a0 w post) : c_slices_Concat_api_Extent_api_Extent a0 w post :=
    calls_of_vc tab_ok Try.func38 (rs := [.cell (.slice)]) (av := [.slice a0.a a0.n a0.c]) slices_Concat_api_Extent_api_Extent_ok (Eq.mpr (slices_Concat_api_Extent_api_Extent_vc a0 w post) h)
/-- scarp/scarpref11.May -/
def f_scarpref11_May (a0c0 : Int) (a0c1 : Int) (w : World) (post : Bool → World → Prop) : Prop :=
  (withW (w.alloc (.cells #[.int .i64 a0c0, .int .i64 a0c1] 44)) fun w1 =>
   (∃ n2 : Int, (w1.cell? (⟨w.heap.size, 0, none⟩ : Addr) = some (.int .i64 n2)) ∧
    (bsplit (decide ((0 : Int) ≤ n2))
     ((∃ n3 : Int, (w1.cell? (⟨w.heap.size, 0, none⟩ : Addr) = some (.int .i64 n3)) ∧
       (bsplit (decide ((n3 : Int) ≤ 1048576))
        ((∃ n4 : Int, (w1.cell? ((⟨w.heap.size, 0, none⟩ : Addr).add 1) = some (.int .i64 n4)) ∧
          (bsplit (decide ((1 : Int) ≤ n4))
           ((∃ n5 : Int, (w1.cell? ((⟨w.heap.size, 0, none⟩ : Addr).add 1) = some (.int .i64 n5)) ∧
             (bsplit (decide ((n5 : Int) ≤ 1048576))
              ((∃ n6 : Int, (w1.cell? (⟨w.heap.size, 0, none⟩ : Addr) = some (.int .i64 n6)) ∧
                (∃ n7 : Int, (w1.cell? ((⟨w.heap.size, 0, none⟩ : Addr).add 1) = some (.int .i64 n7)) ∧
                 post ((decide ((n6 : Int) ≤ (IntKind.i64.wrap (1048577 - n7))))) w1)))
              (post (false) w1))))
           (post (false) w1))))
        (post (false) w1))))
     (post (false) w1))))
theorem scarpref11_May_vc (a0c0 : Int) (a0c1 : Int) (w : World) (post : RT [.cell (.bool)] → World → Prop) : vcF Try.prog tab Try.f39 [.cell (.bool)] [.agg #[.int .i64 a0c0, .int .i64 a0c1]] w post = f_scarpref11_May a0c0 a0c1 w post := by kernel_rfl
theorem scarpref11_May_ok : okFn Try.f39 1 = true := by kernel_rfl
theorem scarpref11_May_go {w : World} {a0c0 : Int} {a0c1 : Int} {post : RT [.cell (.bool)] → World → Prop} (h : f_scarpref11_May a0c0 a0c1 w post) : c_scarpref11_May a0c0 a0c1 w post :=
    calls_of_vc tab_ok Try.func39 (rs := [.cell (.bool)]) (av := [.agg #[.int .i64 a0c0, .int .i64 a0c1]]) scarpref11_May_ok (Eq.mpr (scarpref11_May_vc a0c0 a0c1 w post) h)
/-- scarp/scarpref11.put; loop over (t7 : SV, t8 : Bool, t5 : Int, t6 : Int, t9 : Int) -/
def f_scarpref11_put (a0 : SV) (a1c0 : Int) (a1c1 : Int) (w : World) (post : SV → World → Prop) : Prop :=
  (withW (w.alloc (.cells #[.int .i64 a1c0, .int .i64 a1c1] 44)) fun w1 =>
   (∃ n2 : Int, (w1.cell? (⟨w.heap.size, 0, none⟩ : Addr) = some (.int .i64 n2)) ∧
    (∃ n3 : Int, (w1.cell? (⟨w.heap.size, 0, none⟩ : Addr) = some (.int .i64 n3)) ∧
     (∃ n4 : Int, (w1.cell? ((⟨w.heap.size, 0, none⟩ : Addr).add 1) = some (.int .i64 n4)) ∧
      (loopR (α := SV × Bool × Int × Int × Int) (⟨none, 0, 0⟩, false, n2, (IntKind.i64.wrap (n3 + n4)), 0) w1 fun x5 w6 next7 =>
       (bsplit (decide ((x5.2.2.2.2 : Int) < ((a0.n : Nat) : Int)))
        ((0 ≤ (x5.2.2.2.2 : Int) ∧ (x5.2.2.2.2 : Int) < ((a0.n : Nat) : Int) ∧
          (onP a0.a fun p8 =>
           (∃ g9 : Int × Int, (w6.cell? (p8.add ((x5.2.2.2.2 : Int).toNat * 2)) = some (.int .i64 g9.1) ∧ w6.cell? ((p8.add ((x5.2.2.2.2 : Int).toNat * 2)).add 1) = some (.int .i64 g9.2)) ∧
            (withW (w6.alloc (.cells #[.int .i64 0, .int .i64 0] 44)) fun w10 =>
             ((((∃ u, w10.cell? (⟨w6.heap.size, 0, none⟩ : Addr) = some u) ∧ w10.frozen? (⟨w6.heap.size, 0, none⟩ : Addr) = false) ∧ ((∃ u, w10.cell? ((⟨w6.heap.size, 0, none⟩ : Addr).add 1) = some u) ∧ w10.frozen? ((⟨w6.heap.size, 0, none⟩ : Addr).add 1) = false)) ∧ (true = true) ∧
              (withW ((w10.setCell (⟨w6.heap.size, 0, none⟩ : Addr) (.int .i64 g9.1)).setCell ((⟨w6.heap.size, 0, none⟩ : Addr).add 1) (.int .i64 g9.2)) fun w11 =>
               (∃ n12 : Int, (w11.cell? (⟨w6.heap.size, 0, none⟩ : Addr) = some (.int .i64 n12)) ∧
                (∃ n13 : Int, (w11.cell? ((⟨w6.heap.size, 0, none⟩ : Addr).add 1) = some (.int .i64 n13)) ∧
                 (bsplit (decide (((IntKind.i64.wrap (n12 + n13)) : Int) < x5.2.2.1))
                  ((∃ g14 : Int × Int, (w11.cell? (⟨w6.heap.size, 0, none⟩ : Addr) = some (.int .i64 g14.1) ∧ w11.cell? ((⟨w6.heap.size, 0, none⟩ : Addr).add 1) = some (.int .i64 g14.2)) ∧
                    (withW (w11.alloc (.cells #[.int .i64 g14.1, .int .i64 g14.2] 44)) fun w15 =>
                     (appendR x5.1 (⟨(some (⟨w11.heap.size, 0, none⟩ : Addr)), 1, 1⟩) 2 16 [.int .i64 0, .int .i64 0] 44 w15 fun (s16 : SV) w17 =>
                      (withI (IntKind.i64.wrap (x5.2.2.2.2 + 1)) fun i18 =>
                       next7 (⟨s16.a, s16.n, s16.c⟩, x5.2.1, x5.2.2.1, x5.2.2.2.1, i18) w17)))))
                  ((∃ n19 : Int, (w11.cell? (⟨w6.heap.size, 0, none⟩ : Addr) = some (.int .i64 n19)) ∧
                    (bsplit (decide ((x5.2.2.2.1 : Int) < n19))
                     ((bsplit (!x5.2.1)
                       ((withW (w11.alloc (.cells #[.int .i64 x5.2.2.1, .int .i64 (IntKind.i64.wrap (x5.2.2.2.1 - x5.2.2.1))] 44)) fun w20 =>
                         (appendR x5.1 (⟨(some (⟨w11.heap.size, 0, none⟩ : Addr)), 1, 1⟩) 2 16 [.int .i64 0, .int .i64 0] 44 w20 fun (s21 : SV) w22 =>
                          (∃ g23 : Int × Int, (w22.cell? (⟨w6.heap.size, 0, none⟩ : Addr) = some (.int .i64 g23.1) ∧ w22.cell? ((⟨w6.heap.size, 0, none⟩ : Addr).add 1) = some (.int .i64 g23.2)) ∧
                           (withW (w22.alloc (.cells #[.int .i64 g23.1, .int .i64 g23.2] 44)) fun w24 =>
                            (appendR s21 (⟨(some (⟨w22.heap.size, 0, none⟩ : Addr)), 1, 1⟩) 2 16 [.int .i64 0, .int .i64 0] 44 w24 fun (s25 : SV) w26 =>
                             (withI (IntKind.i64.wrap (x5.2.2.2.2 + 1)) fun i27 =>
                              next7 (⟨s25.a, s25.n, s25.c⟩, true, x5.2.2.1, x5.2.2.2.1, i27) w26)))))))
                       ((∃ g28 : Int × Int, (w11.cell? (⟨w6.heap.size, 0, none⟩ : Addr) = some (.int .i64 g28.1) ∧ w11.cell? ((⟨w6.heap.size, 0, none⟩ : Addr).add 1) = some (.int .i64 g28.2)) ∧
                         (withW (w11.alloc (.cells #[.int .i64 g28.1, .int .i64 g28.2] 44)) fun w29 =>
                          (appendR x5.1 (⟨(some (⟨w11.heap.size, 0, none⟩ : Addr)), 1, 1⟩) 2 16 [.int .i64 0, .int .i64 0] 44 w29 fun (s30 : SV) w31 =>
                           (withI (IntKind.i64.wrap (x5.2.2.2.2 + 1)) fun i32 =>
                            next7 (⟨s30.a, s30.n, s30.c⟩, x5.2.1, x5.2.2.1, x5.2.2.2.1, i32) w31)))))))
                     ((∃ n33 : Int, (w11.cell? (⟨w6.heap.size, 0, none⟩ : Addr) = some (.int .i64 n33)) ∧
                       (withI (if (n33 : Int) < x5.2.2.1 then n33 else x5.2.2.1) fun i34 =>
                        (∃ n35 : Int, (w11.cell? (⟨w6.heap.size, 0, none⟩ : Addr) = some (.int .i64 n35)) ∧
                         (∃ n36 : Int, (w11.cell? ((⟨w6.heap.size, 0, none⟩ : Addr).add 1) = some (.int .i64 n36)) ∧
                          (withI (if ((IntKind.i64.wrap (n35 + n36)) : Int) > x5.2.2.2.1 then (IntKind.i64.wrap (n35 + n36)) else x5.2.2.2.1) fun i37 =>
                           (withI (IntKind.i64.wrap (x5.2.2.2.2 + 1)) fun i38 =>
                            next7 (⟨x5.1.a, x5.1.n, x5.1.c⟩, x5.2.1, i34, i37, i38) w11))))))))))))))))))))
        ((bsplit (!x5.2.1)
          ((withW (w6.alloc (.cells #[.int .i64 x5.2.2.1, .int .i64 (IntKind.i64.wrap (x5.2.2.2.1 - x5.2.2.1))] 44)) fun w39 =>
            (appendR x5.1 (⟨(some (⟨w6.heap.size, 0, none⟩ : Addr)), 1, 1⟩) 2 16 [.int .i64 0, .int .i64 0] 44 w39 fun (s40 : SV) w41 =>
             post (⟨s40.a, s40.n, s40.c⟩) w41)))
          (post (⟨x5.1.a, x5.1.n, x5.1.c⟩) w6)))))))))
theorem scarpref11_put_vc (a0 : SV) (a1c0 : Int) (a1c1 : Int) (w : World) (post : RT [.cell (.slice)] → World → Prop) : vcF Try.prog tab Try.f40 [.cell (.slice)] [.slice a0.a a0.n a0.c, .agg #[.int .i64 a1c0, .int .i64 a1c1]] w post = f_scarpref11_put a0 a1c0 a1c1 w post := by kernel_rfl
theorem scarpref11_put_ok : okFn Try.f40 2 = true := by kernel_rfl
theorem scarpref11_put_go {w : World} {a0 : SV} {a1c0 : Int} {a1c1 : Int} {post : RT [.cell (.slice)] → World → Prop} (h : f_scarpref11_put a0 a1c0 a1c1 w post) : c_scarpref11_put a0 a1c0 a1c1 w post :=
    calls_of_vc tab_ok Try.func40 (rs := [.cell (.slice)]) (av := [.slice a0.a a0.n a0.c, .agg #[.int .i64 a1c0, .int .i64 a1c1]]) scarpref11_put_ok (Eq.mpr (scarpref11_put_vc a0 a1c0 a1c1 w post) h)
/-- slices.Clone[[]scarp/api.Extent,scarp/api.Extent] -/
def f_slices_Clone_api_Extent_api_Extent (a0 : SV) (w : World) (post : SV → World → Prop) : Prop :=
  (bsplit ((a0.a).isNone)
   (post (⟨none, 0, 0⟩) w)
   ((withW (w.alloc (.cells #[] 44)) fun w1 =>
     (appendR (⟨(some (⟨w.heap.size, 0, none⟩ : Addr)), 0, 0⟩) a0 2 16 [.int .i64 0, .int .i64 0] 44 w1 fun (s2 : SV) w3 =>
      post (⟨s2.a, s2.n, s2.c⟩) w3))))
theorem slices_Clone_api_Extent_api_Extent_vc (a0 : SV) (w : World) (post : RT [.cell (.slice)] → World → Prop) : vcF Try.prog tab Try.f41 [.cell (.slice)] [.slice a0.a a0.n a0.c] w post = f_slices_Clone_api_Extent_api_Extent a0 w post := by kernel_rfl
theorem slices_Clone_api_Extent_api_Extent_ok : okFn Try.f41 1 = true := by kernel_rfl
theorem slices_Clone_api_Extent_api_Extent_go {w : World} {a0 : SV} {post : RT [.cell (.slice)] → World → Prop} (h : f_slices_Clone_api_Extent_api_Extent a0 w post) : c_slices_Clone_api_Extent_api_Extent a0 w post :=
    calls_of_vc tab_ok Try.func41 (rs := [.cell (.slice)]) (av := [.slice a0.a a0.n a0.c]) slices_Clone_api_Extent_api_Extent_ok (Eq.mpr (slices_Clone_api_Extent_api_Extent_vc a0 w post) h)
/-- scarp/valid.Against$1 -/
def f_valid_Against_1 (a0c0 : Int) (a0c1 : SV) (c0 : Option Addr) (w : World) (post : Bool → World → Prop) : Prop :=
  (withW (w.alloc (.cells #[.int .i64 a0c0, .slice a0c1.a a0c1.n a0c1.c] 53)) fun w1 =>
   (onP c0 fun p2 =>
    (∃ q3 : Option Addr, (w1.cell? p2 = some (.pointer q3)) ∧
     (∃ n4 : Int, (w1.cell? (⟨w.heap.size, 0, none⟩ : Addr) = some (.int .i64 n4)) ∧
      (c_ival_Set_Has q3 n4 w1 fun (x5 : Bool) w6 =>
       post (x5) w6)))))
theorem valid_Against_1_vc (a0c0 : Int) (a0c1 : SV) (c0 : Option Addr) (w : World) (post : RT [.cell (.bool)] → World → Prop) : vcF Try.prog tab Try.f42 [.cell (.bool)] [.agg #[.int .i64 a0c0, .slice a0c1.a a0c1.n a0c1.c], .pointer c0] w post = f_valid_Against_1 a0c0 a0c1 c0 w post := by kernel_rfl
theorem valid_Against_1_ok : okFn Try.f42 2 = true := by kernel_rfl
theorem valid_Against_1_go {w : World} {a0c0 : Int} {a0c1 : SV} {c0 : Option Addr} {post : RT [.cell (.bool)] → World → Prop} (h : f_valid_Against_1 a0c0 a0c1 c0 w post) : c_valid_Against_1 a0c0 a0c1 c0 w post :=
    calls_of_vc tab_ok Try.func42 (rs := [.cell (.bool)]) (av := [.agg #[.int .i64 a0c0, .slice a0c1.a a0c1.n a0c1.c], .pointer c0]) valid_Against_1_ok (Eq.mpr (valid_Against_1_vc a0c0 a0c1 c0 w post) h)
/-- (*scarp/ival.Set).Has -/
def f_ival_Set_Has (a0 : Option Addr) (a1 : Int) (w : World) (post : Bool → World → Prop) : Prop :=
  (c_ival_Set_Meets a0 a1 1 w fun (x1 : Bool) w2 =>
   post (x1) w2)
theorem ival_Set_Has_vc (a0 : Option Addr) (a1 : Int) (w : World) (post : RT [.cell (.bool)] → World → Prop) : vcF Try.prog tab Try.f43 [.cell (.bool)] [.pointer a0, .int .i64 a1] w post = f_ival_Set_Has a0 a1 w post := by kernel_rfl
theorem ival_Set_Has_ok : okFn Try.f43 2 = true := by kernel_rfl
theorem ival_Set_Has_go {w : World} {a0 : Option Addr} {a1 : Int} {post : RT [.cell (.bool)] → World → Prop} (h : f_ival_Set_Has a0 a1 w post) : c_ival_Set_Has a0 a1 w post :=
    calls_of_vc tab_ok Try.func43 (rs := [.cell (.bool)]) (av := [.pointer a0, .int .i64 a1]) ival_Set_Has_ok (Eq.mpr (ival_Set_Has_vc a0 a1 w post) h)
/-- scarp/scarpalike.Round -/
def f_scarpalike_Round (a0 : Int) (a1 : Int) (w : World) (post : Int → World → Prop) : Prop :=
  ((true = true) ∧ (a1 : Int) ≠ 0 ∧
   (bsplit (decide ((((a0 : Int).tmod a1) : Int) < 0))
    ((withI (IntKind.i64.wrap (((a0 : Int).tmod a1) + a1)) fun i1 =>
      post (i1) w))
    (post (((a0 : Int).tmod a1)) w)))
theorem scarpalike_Round_vc (a0 : Int) (a1 : Int) (w : World) (post : RT [.cell (.int .i64)] → World → Prop) : vcF Try.prog tab Try.f44 [.cell (.int .i64)] [.int .i64 a0, .int .i64 a1] w post = f_scarpalike_Round a0 a1 w post := by kernel_rfl
theorem scarpalike_Round_ok : okFn Try.f44 2 = true := by kernel_rfl
theorem scarpalike_Round_go {w : World} {a0 : Int} {a1 : Int} {post : RT [.cell (.int .i64)] → World → Prop} (h : f_scarpalike_Round a0 a1 w post) : c_scarpalike_Round a0 a1 w post :=
    calls_of_vc tab_ok Try.func44 (rs := [.cell (.int .i64)]) (av := [.int .i64 a0, .int .i64 a1]) scarpalike_Round_ok (Eq.mpr (scarpalike_Round_vc a0 a1 w post) h)
/-- slices.ContainsFunc[[]scarp/api.Extent,scarp/api.Extent] -/
def f_slices_ContainsFunc_api_Extent_api_Extent_at_ival_all_1 (a0 : SV) (w : World) (post : Bool → World → Prop) : Prop :=
  (c_slices_IndexFunc_api_Extent_api_Extent_at_ival_all_1 a0 w fun (x1 : Int) w2 =>
   post ((decide ((0 : Int) ≤ x1))) w2)
theorem slices_ContainsFunc_api_Extent_api_Extent_at_ival_all_1_vc (a0 : SV) (w : World) (post : RT [.cell (.bool)] → World → Prop) : vcF Try.prog tab Try.f45 [.cell (.bool)] [.slice a0.a a0.n a0.c, .func (.func 46) #[] #[]] w post = f_slices_ContainsFunc_api_Extent_api_Extent_at_ival_all_1 a0 w post := by kernel_rfl
theorem slices_ContainsFunc_api_Extent_api_Extent_at_ival_all_1_ok : okFn Try.f45 2 = true := by kernel_rfl
theorem slices_ContainsFunc_api_Extent_api_Extent_at_ival_all_1_go {w : World} {a0 : SV} {post : RT [.cell (.bool)] → World → Prop} (h : f_slices_ContainsFunc_api_Extent_api_Extent_at_ival_all_1 a0 w post) : c_slices_ContainsFunc_api_Extent_api_Extent_at_ival_all_1 a0 w post :=
    calls_of_vc tab_ok Try.func45 (rs := [.cell (.bool)]) (av := [.slice a0.a a0.n a0.c, .func (.func 46) #[] #[]]) slices_ContainsFunc_api_Extent_api_Extent_at_ival_all_1_ok (Eq.mpr (slices_ContainsFunc_api_Extent_api_Extent_at_ival_all_1_vc a0 w post) h)
/-- slices.ContainsFunc[[]scarp/api.Extent,scarp/api.Extent] -/
def f_slices_ContainsFunc_api_Extent_api_Extent_at_ival_Set_Meets_1 (a0 : SV) (a1c0 : Option Addr) (w : World) (post : Bool → World → Prop) : Prop :=
  (c_slices_IndexFunc_api_Extent_api_Extent_at_ival_Set_Meets_1 a0 a1c0 w fun (x1 : Int) w2 =>
   post ((decide ((0 : Int) ≤ x1))) w2)
theorem slices_ContainsFunc_api_Extent_api_Extent_at_ival_Set_Meets_1_vc (a0 : SV) (a1c0 : Option Addr) (w : World) (post : RT [.cell (.bool)] → World → Prop) : vcF Try.prog tab Try.f45 [.cell (.bool)] [.slice a0.a a0.n a0.c, .func (.func 57) #[] #[.pointer a1c0]] w post = f_slices_ContainsFunc_api_Extent_api_Extent_at_ival_Set_Meets_1 a0 a1c0 w post := by kernel_rfl
theorem slices_ContainsFunc_api_Extent_api_Extent_at_ival_Set_Meets_1_ok : okFn Try.f45 2 = true := by kernel_rfl
theorem slices_ContainsFunc_api_Extent_api_Extent_at_ival_Set_Meets_1_go {w : World} {a0 : SV} {a1c0 : Option Addr} {post : RT [.cell (.bool)] → World → Prop} (h : f_slices_ContainsFunc_api_Extent_api_Extent_at_ival_Set_Meets_1 a0 a1c0 w post) : c_slices_ContainsFunc_api_Extent_api_Extent_at_ival_Set_Meets_1 a0 a1c0 w post :=
    calls_of_vc tab_ok Try.func45 (rs := [.cell (.bool)]) (av := [.slice a0.a a0.n a0.c, .func (.func 57) #[] #[.pointer a1c0]]) slices_ContainsFunc_api_Extent_api_Extent_at_ival_Set_Meets_1_ok (Eq.mpr (slices_ContainsFunc_api_Extent_api_Extent_at_ival_Set_Meets_1_vc a0 a1c0 w post) h)
/-- scarp/ival.all$1 -/
def f_ival_all_1 (a0c0 : Int) (a0c1 : Int) (w : World) (post : Bool → World → Prop) : Prop :=
  (withW (w.alloc (.cells #[.int .i64 a0c0, .int .i64 a0c1] 44)) fun w1 =>
   (∃ g2 : Int × Int, (w1.cell? (⟨w.heap.size, 0, none⟩ : Addr) = some (.int .i64 g2.1) ∧ w1.cell? ((⟨w.heap.size, 0, none⟩ : Addr).add 1) = some (.int .i64 g2.2)) ∧
    (c_ival_may g2.1 g2.2 w1 fun (x3 : Bool) w4 =>
     post ((!x3)) w4)))
theorem ival_all_1_vc (a0c0 : Int) (a0c1 : Int) (w : World) (post : RT [.cell (.bool)] → World → Prop) : vcF Try.prog tab Try.f46 [.cell (.bool)] [.agg #[.int .i64 a0c0, .int .i64 a0c1]] w post = f_ival_all_1 a0c0 a0c1 w post := by kernel_rfl
theorem ival_all_1_ok : okFn Try.f46 1 = true := by kernel_rfl
theorem ival_all_1_go {w : World} {a0c0 : Int} {a0c1 : Int} {post : RT [.cell (.bool)] → World → Prop} (h : f_ival_all_1 a0c0 a0c1 w post) : c_ival_all_1 a0c0 a0c1 w post :=
    calls_of_vc tab_ok Try.func46 (rs := [.cell (.bool)]) (av := [.agg #[.int .i64 a0c0, .int .i64 a0c1]]) ival_all_1_ok (Eq.mpr (ival_all_1_vc a0c0 a0c1 w post) h)
/-- scarp/ival.may -/
def f_ival_may (a0c0 : Int) (a0c1 : Int) (w : World) (post : Bool → World → Prop) : Prop :=
  (withW (w.alloc (.cells #[.int .i64 a0c0, .int .i64 a0c1] 44)) fun w1 =>
   (∃ n2 : Int, (w1.cell? (⟨w.heap.size, 0, none⟩ : Addr) = some (.int .i64 n2)) ∧
    (bsplit (decide ((0 : Int) ≤ n2))
     ((∃ n3 : Int, (w1.cell? (⟨w.heap.size, 0, none⟩ : Addr) = some (.int .i64 n3)) ∧
       (bsplit (decide ((n3 : Int) ≤ 1048576))
        ((∃ n4 : Int, (w1.cell? ((⟨w.heap.size, 0, none⟩ : Addr).add 1) = some (.int .i64 n4)) ∧
          (bsplit (decide ((1 : Int) ≤ n4))
           ((∃ n5 : Int, (w1.cell? ((⟨w.heap.size, 0, none⟩ : Addr).add 1) = some (.int .i64 n5)) ∧
             (bsplit (decide ((n5 : Int) ≤ 1048576))
              ((∃ n6 : Int, (w1.cell? (⟨w.heap.size, 0, none⟩ : Addr) = some (.int .i64 n6)) ∧
                (∃ n7 : Int, (w1.cell? ((⟨w.heap.size, 0, none⟩ : Addr).add 1) = some (.int .i64 n7)) ∧
                 post ((decide (((IntKind.i64.wrap (n6 + n7)) : Int) ≤ 1048577))) w1)))
              (post (false) w1))))
           (post (false) w1))))
        (post (false) w1))))
     (post (false) w1))))
theorem ival_may_vc (a0c0 : Int) (a0c1 : Int) (w : World) (post : RT [.cell (.bool)] → World → Prop) : vcF Try.prog tab Try.f47 [.cell (.bool)] [.agg #[.int .i64 a0c0, .int .i64 a0c1]] w post = f_ival_may a0c0 a0c1 w post := by kernel_rfl
theorem ival_may_ok : okFn Try.f47 1 = true := by kernel_rfl
theorem ival_may_go {w : World} {a0c0 : Int} {a0c1 : Int} {post : RT [.cell (.bool)] → World → Prop} (h : f_ival_may a0c0 a0c1 w post) : c_ival_may a0c0 a0c1 w post :=
    calls_of_vc tab_ok Try.func47 (rs := [.cell (.bool)]) (av := [.agg #[.int .i64 a0c0, .int .i64 a0c1]]) ival_may_ok (Eq.mpr (ival_may_vc a0c0 a0c1 w post) h)
/-- scarp/ival.joined$1 -/
def f_ival_joined_1 (a0c0 : Int) (a0c1 : Int) (a1c0 : Int) (a1c1 : Int) (w : World) (post : Int → World → Prop) : Prop :=
  (withW (w.alloc (.cells #[.int .i64 a0c0, .int .i64 a0c1] 44)) fun w1 =>
   (withW (w1.alloc (.cells #[.int .i64 a1c0, .int .i64 a1c1] 44)) fun w2 =>
    (∃ n3 : Int, (w2.cell? (⟨w.heap.size, 0, none⟩ : Addr) = some (.int .i64 n3)) ∧
     (∃ n4 : Int, (w2.cell? (⟨w1.heap.size, 0, none⟩ : Addr) = some (.int .i64 n4)) ∧
      (c_cmp_Compare_int n3 n4 w2 fun (x5 : Int) w6 =>
       post (x5) w6)))))
theorem ival_joined_1_vc (a0c0 : Int) (a0c1 : Int) (a1c0 : Int) (a1c1 : Int) (w : World) (post : RT [.cell (.int .i64)] → World → Prop) : vcF Try.prog tab Try.f49 [.cell (.int .i64)] [.agg #[.int .i64 a0c0, .int .i64 a0c1], .agg #[.int .i64 a1c0, .int .i64 a1c1]] w post = f_ival_joined_1 a0c0 a0c1 a1c0 a1c1 w post := by kernel_rfl
theorem ival_joined_1_ok : okFn Try.f49 2 = true := by kernel_rfl
theorem ival_joined_1_go {w : World} {a0c0 : Int} {a0c1 : Int} {a1c0 : Int} {a1c1 : Int} {post : RT [.cell (.int .i64)] → World → Prop} (h : f_ival_joined_1 a0c0 a0c1 a1c0 a1c1 w post) : c_ival_joined_1 a0c0 a0c1 a1c0 a1c1 w post :=
    calls_of_vc tab_ok Try.func49 (rs := [.cell (.int .i64)]) (av := [.agg #[.int .i64 a0c0, .int .i64 a0c1], .agg #[.int .i64 a1c0, .int .i64 a1c1]]) ival_joined_1_ok (Eq.mpr (ival_joined_1_vc a0c0 a0c1 a1c0 a1c1 w post) h)
/-- cmp.Compare[int] -/
def f_cmp_Compare_int (a0 : Int) (a1 : Int) (w : World) (post : Int → World → Prop) : Prop :=
  (c_cmp_isNaN_int a0 w fun (x1 : Bool) w2 =>
   (c_cmp_isNaN_int a1 w2 fun (x3 : Bool) w4 =>
    (bsplit x1
     ((bsplit x3
       (post (0) w4)
       (post ((-1)) w4)))
     ((bsplit x3
       (post (1) w4)
       ((bsplit (decide ((a0 : Int) < a1))
         (post ((-1)) w4)
         ((bsplit (decide ((a1 : Int) < a0))
           (post (1) w4)
           (post (0) w4))))))))))
theorem cmp_Compare_int_vc (a0 : Int) (a1 : Int) (w : World) (post : RT [.cell (.int .i64)] → World → Prop) : vcF Try.prog tab Try.f50 [.cell (.int .i64)] [.int .i64 a0, .int .i64 a1] w post = f_cmp_Compare_int a0 a1 w post := by kernel_rfl
theorem cmp_Compare_int_ok : okFn Try.f50 2 = true := by kernel_rfl
theorem cmp_Compare_int_go {w : World} {a0 : Int} {a1 : Int} {post : RT [.cell (.int .i64)] → World → Prop} (h : f_cmp_Compare_int a0 a1 w post) : c_cmp_Compare_int a0 a1 w post :=
    calls_of_vc tab_ok Try.func50 (rs := [.cell (.int .i64)]) (av := [.int .i64 a0, .int .i64 a1]) cmp_Compare_int_ok (Eq.mpr (cmp_Compare_int_vc a0 a1 w post) h)
/-- slices.Grow[[]scarp/api.Extent,scarp/api.Extent] -/
def f_slices_Grow_api_Extent_api_Extent (a0 : SV) (a1 : Int) (w : World) (post : SV → World → Prop) : Prop :=
  (bsplit (decide ((a1 : Int) < 0))
   (False)
   ((withI (IntKind.i64.wrap (a1 - (IntKind.i64.wrap (((a0.c : Nat) : Int) - ((a0.n : Nat) : Int))))) fun i1 =>
     (bsplit (decide ((0 : Int) < i1))
      ((0 ≤ (0 : Int) ∧ (0 : Int) ≤ (((a0.c : Nat) : Int) : Int) ∧ (((a0.c : Nat) : Int) : Int) ≤ ((a0.c : Nat) : Int) ∧
        (appendZ (⟨(sub? a0.a (0 : Int).toNat a0.c 2), ((((a0.c : Nat) : Int) : Int).toNat - (0 : Int).toNat), (a0.c - (0 : Int).toNat)⟩) i1 2 16 [.int .i64 0, .int .i64 0] 44 w fun (s2 : SV) w3 =>
         (0 ≤ (0 : Int) ∧ (0 : Int) ≤ (((a0.n : Nat) : Int) : Int) ∧ (((a0.n : Nat) : Int) : Int) ≤ ((s2.c : Nat) : Int) ∧
          post (⟨(sub? s2.a (0 : Int).toNat s2.c 2), ((((a0.n : Nat) : Int) : Int).toNat - (0 : Int).toNat), (s2.c - (0 : Int).toNat)⟩) w3))))
      (post (⟨a0.a, a0.n, a0.c⟩) w)))))
theorem slices_Grow_api_Extent_api_Extent_vc (a0 : SV) (a1 : Int) (w : World) (post : RT [.cell (.slice)] → World → Prop) : vcF Try.prog tab Try.f51 [.cell (.slice)] [.slice a0.a a0.n a0.c, .int .i64 a1] w post = f_slices_Grow_api_Extent_api_Extent a0 a1 w post := by kernel_rfl
theorem slices_Grow_api_Extent_api_Extent_ok : okFn Try.f51 2 = true := by kernel_rfl
theorem slices_Grow_api_Extent_api_Extent_go {w : World} {a0 : SV} {a1 : Int} {post : RT [.cell (.slice)] → World → Prop} (h : f_slices_Grow_api_Extent_api_Extent a0 a1 w post) : c_slices_Grow_api_Extent_api_Extent a0 a1 w post :=
    calls_of_vc tab_ok Try.func51 (rs := [.cell (.slice)]) (av := [.slice a0.a a0.n a0.c, .int .i64 a1]) slices_Grow_api_Extent_api_Extent_ok (Eq.mpr (slices_Grow_api_Extent_api_Extent_vc a0 a1 w post) h)
/-- (*scarp/ival.Set).Meets -/
def f_ival_Set_Meets (a0 : Option Addr) (a1c0 : Int) (a1c1 : Int) (w : World) (post : Bool → World → Prop) : Prop :=
  (withW (w.alloc (.cells #[.int .i64 a1c0, .int .i64 a1c1] 44)) fun w1 =>
   (bsplit ((a0).isNone)
    (post (false) w1)
    ((∃ g2 : Int × Int, (w1.cell? (⟨w.heap.size, 0, none⟩ : Addr) = some (.int .i64 g2.1) ∧ w1.cell? ((⟨w.heap.size, 0, none⟩ : Addr).add 1) = some (.int .i64 g2.2)) ∧
      (c_ival_may g2.1 g2.2 w1 fun (x3 : Bool) w4 =>
       (bsplit (!x3)
        (post (false) w4)
        ((onP a0 fun p5 =>
          (∃ s6 : SV, (w4.cell? (p5.add 1) = some (.slice s6.a s6.n s6.c)) ∧
           (c_slices_ContainsFunc_api_Extent_api_Extent_at_ival_Set_Meets_1 s6 (some (⟨w.heap.size, 0, none⟩ : Addr)) w4 fun (x7 : Bool) w8 =>
            post (x7) w8))))))))))
theorem ival_Set_Meets_vc (a0 : Option Addr) (a1c0 : Int) (a1c1 : Int) (w : World) (post : RT [.cell (.bool)] → World → Prop) : vcF Try.prog tab Try.f52 [.cell (.bool)] [.pointer a0, .agg #[.int .i64 a1c0, .int .i64 a1c1]] w post = f_ival_Set_Meets a0 a1c0 a1c1 w post := by kernel_rfl
theorem ival_Set_Meets_ok : okFn Try.f52 2 = true := by kernel_rfl
theorem ival_Set_Meets_go {w : World} {a0 : Option Addr} {a1c0 : Int} {a1c1 : Int} {post : RT [.cell (.bool)] → World → Prop} (h : f_ival_Set_Meets a0 a1c0 a1c1 w post) : c_ival_Set_Meets a0 a1c0 a1c1 w post :=
    calls_of_vc tab_ok Try.func52 (rs := [.cell (.bool)]) (av := [.pointer a0, .agg #[.int .i64 a1c0, .int .i64 a1c1]]) ival_Set_Meets_ok (Eq.mpr (ival_Set_Meets_vc a0 a1c0 a1c1 w post) h)
/-- slices.IndexFunc[[]scarp/api.Extent,scarp/api.Extent]; loop over (t4 : Int, t8 : Int) -/
def f_slices_IndexFunc_api_Extent_api_Extent_at_ival_all_1 (a0 : SV) (w : World) (post : Int → World → Prop) : Prop :=
  (loopR (α := Int × Int) (0, 0) w fun x1 w2 next3 =>
   (bsplit (decide ((x1.2 : Int) < ((a0.n : Nat) : Int)))
    ((0 ≤ (x1.2 : Int) ∧ (x1.2 : Int) < ((a0.n : Nat) : Int) ∧
      (onP a0.a fun p4 =>
       (∃ g5 : Int × Int, (w2.cell? (p4.add ((x1.2 : Int).toNat * 2)) = some (.int .i64 g5.1) ∧ w2.cell? ((p4.add ((x1.2 : Int).toNat * 2)).add 1) = some (.int .i64 g5.2)) ∧
        (c_ival_all_1 g5.1 g5.2 w2 fun (x6 : Bool) w7 =>
         (bsplit x6
          (post (x1.2) w7)
          (next3 (x1.1, (IntKind.i64.wrap (x1.2 + 1))) w7)))))))
    (post ((-1)) w2)))
theorem slices_IndexFunc_api_Extent_api_Extent_at_ival_all_1_vc (a0 : SV) (w : World) (post : RT [.cell (.int .i64)] → World → Prop) : vcF Try.prog tab Try.f53 [.cell (.int .i64)] [.slice a0.a a0.n a0.c, .func (.func 46) #[] #[]] w post = f_slices_IndexFunc_api_Extent_api_Extent_at_ival_all_1 a0 w post := by kernel_rfl
theorem slices_IndexFunc_api_Extent_api_Extent_at_ival_all_1_ok : okFn Try.f53 2 = true := by kernel_rfl
theorem slices_IndexFunc_api_Extent_api_Extent_at_ival_all_1_go {w : World} {a0 : SV} {post : RT [.cell (.int .i64)] → World → Prop} (h : f_slices_IndexFunc_api_Extent_api_Extent_at_ival_all_1 a0 w post) : c_slices_IndexFunc_api_Extent_api_Extent_at_ival_all_1 a0 w post :=
    calls_of_vc tab_ok Try.func53 (rs := [.cell (.int .i64)]) (av := [.slice a0.a a0.n a0.c, .func (.func 46) #[] #[]]) slices_IndexFunc_api_Extent_api_Extent_at_ival_all_1_ok (Eq.mpr (slices_IndexFunc_api_Extent_api_Extent_at_ival_all_1_vc a0 w post) h)
/-- slices.IndexFunc[[]scarp/api.Extent,scarp/api.Extent]; loop over (t4 : Int, t8 : Int) -/
def f_slices_IndexFunc_api_Extent_api_Extent_at_ival_Set_Meets_1 (a0 : SV) (a1c0 : Option Addr) (w : World) (post : Int → World → Prop) : Prop :=
  (loopR (α := Int × Int) (0, 0) w fun x1 w2 next3 =>
   (bsplit (decide ((x1.2 : Int) < ((a0.n : Nat) : Int)))
    ((0 ≤ (x1.2 : Int) ∧ (x1.2 : Int) < ((a0.n : Nat) : Int) ∧
      (onP a0.a fun p4 =>
       (∃ g5 : Int × Int, (w2.cell? (p4.add ((x1.2 : Int).toNat * 2)) = some (.int .i64 g5.1) ∧ w2.cell? ((p4.add ((x1.2 : Int).toNat * 2)).add 1) = some (.int .i64 g5.2)) ∧
        (c_ival_Set_Meets_1 g5.1 g5.2 a1c0 w2 fun (x6 : Bool) w7 =>
         (bsplit x6
          (post (x1.2) w7)
          (next3 (x1.1, (IntKind.i64.wrap (x1.2 + 1))) w7)))))))
    (post ((-1)) w2)))
theorem slices_IndexFunc_api_Extent_api_Extent_at_ival_Set_Meets_1_vc (a0 : SV) (a1c0 : Option Addr) (w : World) (post : RT [.cell (.int .i64)] → World → Prop) : vcF Try.prog tab Try.f53 [.cell (.int .i64)] [.slice a0.a a0.n a0.c, .func (.func 57) #[] #[.pointer a1c0]] w post = f_slices_IndexFunc_api_Extent_api_Extent_at_ival_Set_Meets_1 a0 a1c0 w post := by kernel_rfl
theorem slices_IndexFunc_api_Extent_api_Extent_at_ival_Set_Meets_1_ok : okFn Try.f53 2 = true := by kernel_rfl
theorem slices_IndexFunc_api_Extent_api_Extent_at_ival_Set_Meets_1_go {w : World} {a0 : SV} {a1c0 : Option Addr} {post : RT [.cell (.int .i64)] → World → Prop} (h : f_slices_IndexFunc_api_Extent_api_Extent_at_ival_Set_Meets_1 a0 a1c0 w post) : c_slices_IndexFunc_api_Extent_api_Extent_at_ival_Set_Meets_1 a0 a1c0 w post :=
    calls_of_vc tab_ok Try.func53 (rs := [.cell (.int .i64)]) (av := [.slice a0.a a0.n a0.c, .func (.func 57) #[] #[.pointer a1c0]]) slices_IndexFunc_api_Extent_api_Extent_at_ival_Set_Meets_1_ok (Eq.mpr (slices_IndexFunc_api_Extent_api_Extent_at_ival_Set_Meets_1_vc a0 a1c0 w post) h)
/-- cmp.isNaN[int] -/
def f_cmp_isNaN_int (a0 : Int) (w : World) (post : Bool → World → Prop) : Prop :=
  post ((!decide ((a0 : Int) = a0))) w
theorem cmp_isNaN_int_vc (a0 : Int) (w : World) (post : RT [.cell (.bool)] → World → Prop) : vcF Try.prog tab Try.f56 [.cell (.bool)] [.int .i64 a0] w post = f_cmp_isNaN_int a0 w post := by kernel_rfl
theorem cmp_isNaN_int_ok : okFn Try.f56 1 = true := by kernel_rfl
theorem cmp_isNaN_int_go {w : World} {a0 : Int} {post : RT [.cell (.bool)] → World → Prop} (h : f_cmp_isNaN_int a0 w post) : c_cmp_isNaN_int a0 w post :=
    calls_of_vc tab_ok Try.func56 (rs := [.cell (.bool)]) (av := [.int .i64 a0]) cmp_isNaN_int_ok (Eq.mpr (cmp_isNaN_int_vc a0 w post) h)
/-- (*scarp/ival.Set).Meets$1 -/
def f_ival_Set_Meets_1 (a0c0 : Int) (a0c1 : Int) (c0 : Option Addr) (w : World) (post : Bool → World → Prop) : Prop :=
  (withW (w.alloc (.cells #[.int .i64 a0c0, .int .i64 a0c1] 44)) fun w1 =>
   (∃ g2 : Int × Int, (w1.cell? (⟨w.heap.size, 0, none⟩ : Addr) = some (.int .i64 g2.1) ∧ w1.cell? ((⟨w.heap.size, 0, none⟩ : Addr).add 1) = some (.int .i64 g2.2)) ∧
    (onP c0 fun p3 =>
     (∃ g4 : Int × Int, (w1.cell? p3 = some (.int .i64 g4.1) ∧ w1.cell? (p3.add 1) = some (.int .i64 g4.2)) ∧
      (c_ival_meet g2.1 g2.2 g4.1 g4.2 w1 fun (x5 : Bool) w6 =>
       post (x5) w6)))))
theorem ival_Set_Meets_1_vc (a0c0 : Int) (a0c1 : Int) (c0 : Option Addr) (w : World) (post : RT [.cell (.bool)] → World → Prop) : vcF Try.prog tab Try.f57 [.cell (.bool)] [.agg #[.int .i64 a0c0, .int .i64 a0c1], .pointer c0] w post = f_ival_Set_Meets_1 a0c0 a0c1 c0 w post := by kernel_rfl
theorem ival_Set_Meets_1_ok : okFn Try.f57 2 = true := by kernel_rfl
theorem ival_Set_Meets_1_go {w : World} {a0c0 : Int} {a0c1 : Int} {c0 : Option Addr} {post : RT [.cell (.bool)] → World → Prop} (h : f_ival_Set_Meets_1 a0c0 a0c1 c0 w post) : c_ival_Set_Meets_1 a0c0 a0c1 c0 w post :=
    calls_of_vc tab_ok Try.func57 (rs := [.cell (.bool)]) (av := [.agg #[.int .i64 a0c0, .int .i64 a0c1], .pointer c0]) ival_Set_Meets_1_ok (Eq.mpr (ival_Set_Meets_1_vc a0c0 a0c1 c0 w post) h)
/-- scarp/ival.meet -/
def f_ival_meet (a0c0 : Int) (a0c1 : Int) (a1c0 : Int) (a1c1 : Int) (w : World) (post : Bool → World → Prop) : Prop :=
  (withW (w.alloc (.cells #[.int .i64 a0c0, .int .i64 a0c1] 44)) fun w1 =>
   (withW (w1.alloc (.cells #[.int .i64 a1c0, .int .i64 a1c1] 44)) fun w2 =>
    (∃ n3 : Int, (w2.cell? (⟨w.heap.size, 0, none⟩ : Addr) = some (.int .i64 n3)) ∧
     (∃ n4 : Int, (w2.cell? (⟨w1.heap.size, 0, none⟩ : Addr) = some (.int .i64 n4)) ∧
      (∃ n5 : Int, (w2.cell? ((⟨w1.heap.size, 0, none⟩ : Addr).add 1) = some (.int .i64 n5)) ∧
       (bsplit (decide ((n3 : Int) < (IntKind.i64.wrap (n4 + n5))))
        ((∃ n6 : Int, (w2.cell? (⟨w1.heap.size, 0, none⟩ : Addr) = some (.int .i64 n6)) ∧
          (∃ n7 : Int, (w2.cell? (⟨w.heap.size, 0, none⟩ : Addr) = some (.int .i64 n7)) ∧
           (∃ n8 : Int, (w2.cell? ((⟨w.heap.size, 0, none⟩ : Addr).add 1) = some (.int .i64 n8)) ∧
            post ((decide ((n6 : Int) < (IntKind.i64.wrap (n7 + n8))))) w2))))
        (post (false) w2)))))))
theorem ival_meet_vc (a0c0 : Int) (a0c1 : Int) (a1c0 : Int) (a1c1 : Int) (w : World) (post : RT [.cell (.bool)] → World → Prop) : vcF Try.prog tab Try.f58 [.cell (.bool)] [.agg #[.int .i64 a0c0, .int .i64 a0c1], .agg #[.int .i64 a1c0, .int .i64 a1c1]] w post = f_ival_meet a0c0 a0c1 a1c0 a1c1 w post := by kernel_rfl
theorem ival_meet_ok : okFn Try.f58 2 = true := by kernel_rfl
theorem ival_meet_go {w : World} {a0c0 : Int} {a0c1 : Int} {a1c0 : Int} {a1c1 : Int} {post : RT [.cell (.bool)] → World → Prop} (h : f_ival_meet a0c0 a0c1 a1c0 a1c1 w post) : c_ival_meet a0c0 a0c1 a1c0 a1c1 w post :=
    calls_of_vc tab_ok Try.func58 (rs := [.cell (.bool)]) (av := [.agg #[.int .i64 a0c0, .int .i64 a0c1], .agg #[.int .i64 a1c0, .int .i64 a1c1]]) ival_meet_ok (Eq.mpr (ival_meet_vc a0c0 a0c1 a1c0 a1c1 w post) h)
end Go.Proofs.Ytbolgpjcmchfoaa
