/- Readable conditions of functions, each tied to its own code by the kernel. -/
import Derived.Test.YtbolgpjcmchfoaaTab
namespace Go.Proofs.Ytbolgpjcmchfoaa
open Go Go.Vc
set_option linter.unusedVariables false
/-- scarp/scarplaw16.ValidMore; loop over (t15 : Int) -/
def f_scarplaw16_ValidMore (a0 : SV) (a1 : Int) (a2 : SV) (a3 : SV) (a4 : SV) (a5 : Int) (w : World) (post : Bool → World → Prop) : Prop :=
  (c_scarplaw16_small a0 (⟨none, 0, 0⟩) a2 a3 w fun (x1 : Bool) w2 =>
   (bsplit (!x1)
    ((c_scarplaw16_awake  w2 fun (x3 : Bool) w4 =>
      post (x3) w4))
    ((bsplit (decide ((30 : Int) < ((a4.n : Nat) : Int)))
      ((c_scarplaw16_awake  w2 fun (x5 : Bool) w6 =>
        post (x5) w6))
      ((bsplit (decide ((((a3.n : Nat) : Int) : Int) = 0))
        ((c_scarplaw16_awake  w2 fun (x7 : Bool) w8 =>
          post (x7) w8))
        ((bsplit (decide ((a5 : Int) < 0))
          ((c_scarplaw16_awake  w2 fun (x9 : Bool) w10 =>
            post (x9) w10))
          ((bsplit (decide ((1073741824 : Int) < a5))
            ((c_scarplaw16_awake  w2 fun (x11 : Bool) w12 =>
              post (x11) w12))
            ((bsplit (decide ((a1 : Int) < (-1099511627776)))
              ((c_scarplaw16_awake  w2 fun (x13 : Bool) w14 =>
                post (x13) w14))
              ((bsplit (decide ((2199023255552 : Int) < a1))
                ((c_scarplaw16_awake  w2 fun (x15 : Bool) w16 =>
                  post (x15) w16))
                ((c_extmap_New 50 w2 fun (x17 : (Option Addr) × Int) w18 =>
                  (bsplit (!decide ((x17.2 : Int) = 0))
                   (post (false) w18)
                   ((bsplit ((x17.1).isNone)
                     (post (false) w18)
                     ((loopR (α := Int) (0) w18 fun x19 w20 next21 =>
                       (bsplit (decide ((x19 : Int) < ((a0.n : Nat) : Int)))
                        ((0 ≤ (x19 : Int) ∧ (x19 : Int) < ((a0.n : Nat) : Int) ∧
                          (onP a0.a fun p22 =>
                           (∃ g23 : Int × SV, (w20.cell? (p22.add ((x19 : Int).toNat * 2)) = some (.int .i64 g23.1) ∧ w20.cell? ((p22.add ((x19 : Int).toNat * 2)).add 1) = some (.slice g23.2.a g23.2.n g23.2.c)) ∧
                            (c_extmap_Map_Apply x17.1 g23.1 g23.2 w20 fun (x24 : Int) w25 =>
                             next21 ((IntKind.i64.wrap (x19 + 1))) w25)))))
                        ((c_scarplaw16_sets a2 w20 fun (x26 : (Option Addr) × (Option Addr) × Bool) w27 =>
                          (c_scarplaw16_sets a3 w27 fun (x28 : (Option Addr) × (Option Addr) × Bool) w29 =>
                           (withW (w29.alloc (.cells #[] 44)) fun w30 =>
                            (appendR (⟨(some (⟨w29.heap.size, 0, none⟩ : Addr)), 0, 0⟩) a2 2 16 [.int .i64 0, .int .i64 0] 44 w30 fun (s31 : SV) w32 =>
                             (appendR s31 a4 2 16 [.int .i64 0, .int .i64 0] 44 w32 fun (s33 : SV) w34 =>
                              (c_scarplaw16_sets s33 w34 fun (x35 : (Option Addr) × (Option Addr) × Bool) w36 =>
                               (bsplit (!x26.2.2)
                                (post (false) w36)
                                ((bsplit (!x28.2.2)
                                  (post (false) w36)
                                  ((bsplit (!x35.2.2)
                                    (post (false) w36)
                                    ((c_valid_Check x17.1 (⟨none, 0, 0⟩) a1 x26.1 x28.1 w36 fun (x37 : Int) w38 =>
                                      (bsplit (!decide ((x37 : Int) = 8))
                                       ((c_scarplaw16_awake  w38 fun (x39 : Bool) w40 =>
                                        post (x39) w40))
                                       ((onP x35.2.1 fun p41 =>
                                        (∃ s42 : SV, (w38.cell? (p41.add 1) = some (.slice s42.a s42.n s42.c)) ∧
                                        (bsplit (decide ((((s42.n : Nat) : Int) : Int) = 0))
                                        ((c_scarplaw16_awake  w38 fun (x43 : Bool) w44 =>
                                        post (x43) w44))
                                        ((c_valid_Check x17.1 (⟨none, 0, 0⟩) a1 x35.1 x28.1 w38 fun (x45 : Int) w46 =>
                                        (bsplit (decide ((x45 : Int) = 8))
                                        ((c_valid_Check x17.1 (⟨none, 0, 0⟩) (IntKind.i64.wrap (a1 - a5)) x26.1 x28.1 w46 fun (x47 : Int) w48 =>
                                        (bsplit (decide ((x47 : Int) = 8))
                                        ((c_scarplaw16_awake  w48 fun (x49 : Bool) w50 =>
                                        post (x49) w50))
                                        (post (false) w48))))
                                        (post (false) w46)))))))))))))))))))))))))))))))))))))))))))))
theorem scarplaw16_ValidMore_vc (a0 : SV) (a1 : Int) (a2 : SV) (a3 : SV) (a4 : SV) (a5 : Int) (w : World) (post : RT [.cell (.bool)] → World → Prop) : vcF Try.prog tab Try.f3 [.cell (.bool)] [.slice a0.a a0.n a0.c, .int .i64 a1, .slice a2.a a2.n a2.c, .slice a3.a a3.n a3.c, .slice a4.a a4.n a4.c, .int .i64 a5] w post = f_scarplaw16_ValidMore a0 a1 a2 a3 a4 a5 w post := by kernel_rfl
theorem scarplaw16_ValidMore_ok : okFn Try.f3 6 = true := by kernel_rfl
theorem scarplaw16_ValidMore_go {w : World} {a0 : SV} {a1 : Int} {a2 : SV} {a3 : SV} {a4 : SV} {a5 : Int} {post : RT [.cell (.bool)] → World → Prop} (h : f_scarplaw16_ValidMore a0 a1 a2 a3 a4 a5 w post) : c_scarplaw16_ValidMore a0 a1 a2 a3 a4 a5 w post :=
    calls_of_vc tab_ok Try.func3 (rs := [.cell (.bool)]) (av := [.slice a0.a a0.n a0.c, .int .i64 a1, .slice a2.a a2.n a2.c, .slice a3.a a3.n a3.c, .slice a4.a a4.n a4.c, .int .i64 a5]) scarplaw16_ValidMore_ok (Eq.mpr (scarplaw16_ValidMore_vc a0 a1 a2 a3 a4 a5 w post) h)
/-- scarp/scarplaw16.ValidQueue -/
def f_scarplaw16_ValidQueue (a0c0 : Int) (a0c1 : SV) (a1 : SV) (a2 : SV) (w : World) (post : Bool → World → Prop) : Prop :=
  (withW (w.alloc (.cells #[.int .i64 a0c0, .slice a0c1.a a0c1.n a0c1.c] 33)) fun w1 =>
   (∃ g2 : Int × SV, (w1.cell? (⟨w.heap.size, 0, none⟩ : Addr) = some (.int .i64 g2.1) ∧ w1.cell? ((⟨w.heap.size, 0, none⟩ : Addr).add 1) = some (.slice g2.2.a g2.2.n g2.2.c)) ∧
    (withW (w1.alloc (.cells #[.int .i64 g2.1, .slice g2.2.a g2.2.n g2.2.c] 33)) fun w3 =>
     (c_scarplaw16_small (⟨(some (⟨w1.heap.size, 0, none⟩ : Addr)), 1, 1⟩) (⟨none, 0, 0⟩) a1 a2 w3 fun (x4 : Bool) w5 =>
      (bsplit (!x4)
       ((c_scarplaw16_awake  w5 fun (x6 : Bool) w7 =>
         post (x6) w7))
       (((((∃ u, w5.cell? (⟨w.heap.size, 0, none⟩ : Addr) = some u) ∧ w5.frozen? (⟨w.heap.size, 0, none⟩ : Addr) = false)) ∧ (true = true) ∧
         (withW (w5.setCell (⟨w.heap.size, 0, none⟩ : Addr) (.int .i64 9)) fun w8 =>
          (c_extmap_New 50 w8 fun (x9 : (Option Addr) × Int) w10 =>
           (c_extmap_New 50 w10 fun (x11 : (Option Addr) × Int) w12 =>
            (bsplit (!decide ((x9.2 : Int) = 0))
             ((c_scarplaw16_awake  w12 fun (x13 : Bool) w14 =>
               post (x13) w14))
             ((bsplit (!decide ((x11.2 : Int) = 0))
               ((c_scarplaw16_awake  w12 fun (x15 : Bool) w16 =>
                 post (x15) w16))
               ((bsplit ((x9.1).isNone)
                 ((c_scarplaw16_awake  w12 fun (x17 : Bool) w18 =>
                   post (x17) w18))
                 ((bsplit ((x11.1).isNone)
                   ((c_scarplaw16_awake  w12 fun (x19 : Bool) w20 =>
                     post (x19) w20))
                   ((∃ g21 : Int × SV, (w12.cell? (⟨w.heap.size, 0, none⟩ : Addr) = some (.int .i64 g21.1) ∧ w12.cell? ((⟨w.heap.size, 0, none⟩ : Addr).add 1) = some (.slice g21.2.a g21.2.n g21.2.c)) ∧
                     (c_extmap_Map_Apply x9.1 g21.1 g21.2 w12 fun (x22 : Int) w23 =>
                      (bsplit (!decide ((x22 : Int) = 0))
                       ((c_scarplaw16_awake  w23 fun (x24 : Bool) w25 =>
                         post (x24) w25))
                       ((c_scarplaw16_sets a1 w23 fun (x26 : (Option Addr) × (Option Addr) × Bool) w27 =>
                         (c_scarplaw16_sets a2 w27 fun (x28 : (Option Addr) × (Option Addr) × Bool) w29 =>
                          (withW w29.drew fun w31 =>
                           (∃ S30 : World → Prop, S30 w31 ∧
                            (bsplit x26.2.2
                             ((bsplit x28.2.2
                               ((∃ g32 : Int × SV, ((∀ w33, S30 w33 → w33.cell? (⟨w.heap.size, 0, none⟩ : Addr) = some (.int .i64 g32.1) ∧ w33.cell? ((⟨w.heap.size, 0, none⟩ : Addr).add 1) = some (.slice g32.2.a g32.2.n g32.2.c))) ∧
                                 ((c_valid_Check x9.1 (⟨none, 0, 0⟩) 5 x26.1 x28.1 w31 fun (x34 : Int) w35 =>
                                   (S30 w35 ∧
                                    (withW (w35.alloc (.cells #[.int .i64 g32.1, .slice g32.2.a g32.2.n g32.2.c] 33)) fun w36 =>
                                     (S30 w36 ∧
                                      (c_valid_Check x11.1 (⟨(some (⟨w35.heap.size, 0, none⟩ : Addr)), 1, 1⟩) 5 x26.1 x28.1 w36 fun (x37 : Int) w38 =>
                                       (S30 w38 ∧
                                        (bsplit (decide ((x34 : Int) = x37))
                                        ((c_valid_Check x9.1 (⟨none, 0, 0⟩) 9 x26.1 x28.1 w38 fun (x39 : Int) w40 =>
                                        (S30 w40 ∧
                                        (bsplit (decide ((x39 : Int) = 0))
                                        ((c_scarplaw16_awake  w40 fun (x41 : Bool) w42 =>
                                        (S30 w42 ∧
                                        post (x41) w42)))
                                        (post (false) w40)))))
                                        (post (false) w38)))))))) ∧
                                  (withW (w31.alloc (.cells #[.int .i64 g32.1, .slice g32.2.a g32.2.n g32.2.c] 33)) fun w43 =>
                                   (S30 w43 ∧
                                    (c_valid_Check x9.1 (⟨none, 0, 0⟩) 5 x26.1 x28.1 w43 fun (x44 : Int) w45 =>
                                     (S30 w45 ∧
                                      (c_valid_Check x11.1 (⟨(some (⟨w31.heap.size, 0, none⟩ : Addr)), 1, 1⟩) 5 x26.1 x28.1 w45 fun (x46 : Int) w47 =>
                                       (S30 w47 ∧
                                        (bsplit (decide ((x44 : Int) = x46))
                                        ((c_valid_Check x9.1 (⟨none, 0, 0⟩) 9 x26.1 x28.1 w47 fun (x48 : Int) w49 =>
                                        (S30 w49 ∧
                                        (bsplit (decide ((x48 : Int) = 0))
                                        ((c_scarplaw16_awake  w49 fun (x50 : Bool) w51 =>
                                        (S30 w51 ∧
                                        post (x50) w51)))
                                        (post (false) w49)))))
                                        (post (false) w47)))))))))))
                               ((post (false) w31 ∧
                                 post (false) w31))))
                             ((post (false) w31 ∧
                               post (false) w31)))))))))))))))))))))))))))))
theorem scarplaw16_ValidQueue_vc (a0c0 : Int) (a0c1 : SV) (a1 : SV) (a2 : SV) (w : World) (post : RT [.cell (.bool)] → World → Prop) : vcF Try.prog tab Try.f4 [.cell (.bool)] [.agg #[.int .i64 a0c0, .slice a0c1.a a0c1.n a0c1.c], .slice a1.a a1.n a1.c, .slice a2.a a2.n a2.c] w post = f_scarplaw16_ValidQueue a0c0 a0c1 a1 a2 w post := by kernel_rfl
theorem scarplaw16_ValidQueue_ok : okFn Try.f4 3 = true := by kernel_rfl
theorem scarplaw16_ValidQueue_go {w : World} {a0c0 : Int} {a0c1 : SV} {a1 : SV} {a2 : SV} {post : RT [.cell (.bool)] → World → Prop} (h : f_scarplaw16_ValidQueue a0c0 a0c1 a1 a2 w post) : c_scarplaw16_ValidQueue a0c0 a0c1 a1 a2 w post :=
    calls_of_vc tab_ok Try.func4 (rs := [.cell (.bool)]) (av := [.agg #[.int .i64 a0c0, .slice a0c1.a a0c1.n a0c1.c], .slice a1.a a1.n a1.c, .slice a2.a a2.n a2.c]) scarplaw16_ValidQueue_ok (Eq.mpr (scarplaw16_ValidQueue_vc a0c0 a0c1 a1 a2 w post) h)
/-- scarp/scarplaw16.ValidReads; loop over (t11 : Int) -/
def f_scarplaw16_ValidReads (a0 : SV) (a1 : SV) (a2 : Int) (a3 : SV) (w : World) (post : Bool → World → Prop) : Prop :=
  (c_scarplaw16_small a0 a1 a3 (⟨none, 0, 0⟩) w fun (x1 : Bool) w2 =>
   (bsplit (!x1)
    ((c_scarplaw16_awake  w2 fun (x3 : Bool) w4 =>
      post (x3) w4))
    ((c_extmap_New 50 w2 fun (x5 : (Option Addr) × Int) w6 =>
      (bsplit (!decide ((x5.2 : Int) = 0))
       (post (false) w6)
       ((bsplit ((x5.1).isNone)
         (post (false) w6)
         ((loopR (α := Int) (0) w6 fun x7 w8 next9 =>
           (bsplit (decide ((x7 : Int) < ((a0.n : Nat) : Int)))
            ((0 ≤ (x7 : Int) ∧ (x7 : Int) < ((a0.n : Nat) : Int) ∧
              (onP a0.a fun p10 =>
               (∃ g11 : Int × SV, (w8.cell? (p10.add ((x7 : Int).toNat * 2)) = some (.int .i64 g11.1) ∧ w8.cell? ((p10.add ((x7 : Int).toNat * 2)).add 1) = some (.slice g11.2.a g11.2.n g11.2.c)) ∧
                (c_extmap_Map_Apply x5.1 g11.1 g11.2 w8 fun (x12 : Int) w13 =>
                 next9 ((IntKind.i64.wrap (x7 + 1))) w13)))))
            ((c_scarplaw16_sets a3 w8 fun (x14 : (Option Addr) × (Option Addr) × Bool) w15 =>
              (c_scarplaw16_sets (⟨none, 0, 0⟩) w15 fun (x16 : (Option Addr) × (Option Addr) × Bool) w17 =>
               (withW (w17.alloc (.cells #[.int .i64 1000, .int .i64 5] 44)) fun w18 =>
                (c_scarplaw16_sets (⟨(some (⟨w17.heap.size, 0, none⟩ : Addr)), 1, 1⟩) w18 fun (x19 : (Option Addr) × (Option Addr) × Bool) w20 =>
                 (bsplit x14.2.2
                  ((bsplit x16.2.2
                    ((bsplit x19.2.2
                      ((c_valid_Check x5.1 a1 a2 x14.1 x16.1 w20 fun (x21 : Int) w22 =>
                        (bsplit (decide ((x21 : Int) = 0))
                         ((c_valid_Check x5.1 (⟨none, 0, 0⟩) a2 x16.1 x19.1 w22 fun (x23 : Int) w24 =>
                           (bsplit (decide ((x23 : Int) = 0))
                            ((c_extmap_Map_Last x5.1 w24 fun (x25 : Int) w26 =>
                              (c_valid_Check x5.1 (⟨none, 0, 0⟩) x25 x14.1 x19.1 w26 fun (x27 : Int) w28 =>
                               (bsplit (decide ((x27 : Int) = 0))
                                ((c_scarplaw16_awake  w28 fun (x29 : Bool) w30 =>
                                  post (x29) w30))
                                (post (false) w28)))))
                            (post (false) w24))))
                         (post (false) w22))))
                      (post (false) w20)))
                    (post (false) w20)))
                  (post (false) w20)))))))))))))))))
theorem scarplaw16_ValidReads_vc (a0 : SV) (a1 : SV) (a2 : Int) (a3 : SV) (w : World) (post : RT [.cell (.bool)] → World → Prop) : vcF Try.prog tab Try.f5 [.cell (.bool)] [.slice a0.a a0.n a0.c, .slice a1.a a1.n a1.c, .int .i64 a2, .slice a3.a a3.n a3.c] w post = f_scarplaw16_ValidReads a0 a1 a2 a3 w post := by kernel_rfl
theorem scarplaw16_ValidReads_ok : okFn Try.f5 4 = true := by kernel_rfl
theorem scarplaw16_ValidReads_go {w : World} {a0 : SV} {a1 : SV} {a2 : Int} {a3 : SV} {post : RT [.cell (.bool)] → World → Prop} (h : f_scarplaw16_ValidReads a0 a1 a2 a3 w post) : c_scarplaw16_ValidReads a0 a1 a2 a3 w post :=
    calls_of_vc tab_ok Try.func5 (rs := [.cell (.bool)]) (av := [.slice a0.a a0.n a0.c, .slice a1.a a1.n a1.c, .int .i64 a2, .slice a3.a a3.n a3.c]) scarplaw16_ValidReads_ok (Eq.mpr (scarplaw16_ValidReads_vc a0 a1 a2 a3 w post) h)
/-- scarp/scarplaw16.ValidRows; loop over (t3 : SV, t4 : Int); loop over (t2 : Bool, t5 : Int) -/
def f_scarplaw16_ValidRows (a0 : SV) (w : World) (post : Bool → World → Prop) : Prop :=
  (c_scarplaw16_small a0 (⟨none, 0, 0⟩) (⟨none, 0, 0⟩) (⟨none, 0, 0⟩) w fun (x1 : Bool) w2 =>
   (bsplit (!x1)
    ((c_scarplaw16_awake  w2 fun (x3 : Bool) w4 =>
      post (x3) w4))
    ((bsplit (decide ((((a0.n : Nat) : Int) : Int) < 2))
      ((c_scarplaw16_awake  w2 fun (x5 : Bool) w6 =>
        post (x5) w6))
      ((c_valid_Order a0 w2 fun (x7 : Bool) w8 =>
        (bsplit (!x7)
         ((withW w8.drew fun w10 =>
           (∃ S9 : World → Prop, S9 w10 ∧
            (0 ≤ (0 : Int) ∧ (0 : Int) ≤ ((IntKind.i64.wrap (((a0.n : Nat) : Int) - 1)) : Int) ∧ ((IntKind.i64.wrap (((a0.n : Nat) : Int) - 1)) : Int) ≤ ((a0.c : Nat) : Int) ∧
             (0 ≤ (0 : Int) ∧ (0 : Int) ≤ ((IntKind.i64.wrap (((a0.n : Nat) : Int) - 1)) : Int) ∧ ((IntKind.i64.wrap (((a0.n : Nat) : Int) - 1)) : Int) ≤ ((a0.c : Nat) : Int) ∧
              (c_valid_Order (⟨(sub? a0.a (0 : Int).toNat a0.c 2), (((IntKind.i64.wrap (((a0.n : Nat) : Int) - 1)) : Int).toNat - (0 : Int).toNat), (a0.c - (0 : Int).toNat)⟩) w10 fun (x11 : Bool) w12 =>
               (S9 w12 ∧
                (c_scarpref11_Order (⟨(sub? a0.a (0 : Int).toNat a0.c 2), (((IntKind.i64.wrap (((a0.n : Nat) : Int) - 1)) : Int).toNat - (0 : Int).toNat), (a0.c - (0 : Int).toNat)⟩) w12 fun (x13 : Bool) w14 =>
                 (S9 w14 ∧
                  (bsplit (x11 == x13)
                   ((c_scarplaw16_awake  w14 fun (x15 : Bool) w16 =>
                     (S9 w16 ∧
                      post (x15) w16)))
                   (post (false) w14)))))))))))
         ((withI (IntKind.i64.wrap (((a0.n : Nat) : Int) - 1)) fun i17 =>
           (loopR (α := SV × Int) (⟨none, 0, 0⟩, i17) w8 fun x18 w19 next20 =>
            (bsplit (decide ((0 : Int) ≤ x18.2))
             ((0 ≤ (x18.2 : Int) ∧ (x18.2 : Int) < ((a0.n : Nat) : Int) ∧
               (onP a0.a fun p21 =>
                (∃ g22 : Int × SV, (w19.cell? (p21.add ((x18.2 : Int).toNat * 2)) = some (.int .i64 g22.1) ∧ w19.cell? ((p21.add ((x18.2 : Int).toNat * 2)).add 1) = some (.slice g22.2.a g22.2.n g22.2.c)) ∧
                 (withW (w19.alloc (.cells #[.int .i64 g22.1, .slice g22.2.a g22.2.n g22.2.c] 33)) fun w23 =>
                  (appendR x18.1 (⟨(some (⟨w19.heap.size, 0, none⟩ : Addr)), 1, 1⟩) 2 32 [.int .i64 0, .slice none 0 0] 33 w23 fun (s24 : SV) w25 =>
                   next20 (⟨s24.a, s24.n, s24.c⟩, (IntKind.i64.wrap (x18.2 - 1))) w25))))))
             ((loopR (α := Bool × Int) (false, 0) w19 fun x26 w27 next28 =>
               (bsplit (decide ((x26.2 : Int) < ((a0.n : Nat) : Int)))
                ((0 ≤ (x26.2 : Int) ∧ (x26.2 : Int) < ((a0.n : Nat) : Int) ∧
                  (onP a0.a fun p29 =>
                   (∃ n30 : Int, (w27.cell? (p29.add ((x26.2 : Int).toNat * 2)) = some (.int .i64 n30)) ∧
                    (bsplit (decide ((n30 : Int) < (IntKind.i64.wrap (x26.2 + 1))))
                     (post (false) w27)
                     (next28 (x26.1, (IntKind.i64.wrap (x26.2 + 1))) w27))))))
                ((withW w27.drew fun w32 =>
                  (∃ S31 : World → Prop, S31 w32 ∧
                   (0 ≤ (0 : Int) ∧ (0 : Int) ≤ ((IntKind.i64.wrap (((a0.n : Nat) : Int) - 1)) : Int) ∧ ((IntKind.i64.wrap (((a0.n : Nat) : Int) - 1)) : Int) ≤ ((a0.c : Nat) : Int) ∧
                    (c_valid_Order (⟨(sub? a0.a (0 : Int).toNat a0.c 2), (((IntKind.i64.wrap (((a0.n : Nat) : Int) - 1)) : Int).toNat - (0 : Int).toNat), (a0.c - (0 : Int).toNat)⟩) w32 fun (x33 : Bool) w34 =>
                     (S31 w34 ∧
                      (bsplit x33
                       ((0 ≤ (1 : Int) ∧ (1 : Int) ≤ (((a0.n : Nat) : Int) : Int) ∧ (((a0.n : Nat) : Int) : Int) ≤ ((a0.c : Nat) : Int) ∧
                         (c_valid_Order (⟨(sub? a0.a (1 : Int).toNat a0.c 2), ((((a0.n : Nat) : Int) : Int).toNat - (1 : Int).toNat), (a0.c - (1 : Int).toNat)⟩) w34 fun (x35 : Bool) w36 =>
                          (S31 w36 ∧
                           (bsplit x35
                            ((c_valid_Order x18.1 w36 fun (x37 : Bool) w38 =>
                              (S31 w38 ∧
                               (bsplit (!x37)
                                ((0 ≤ (0 : Int) ∧ (0 : Int) < ((a0.n : Nat) : Int) ∧
                                  (onP a0.a fun p39 =>
                                   (∃ g40 : Int × SV, ((∀ w41, S31 w41 → w41.cell? (p39.add ((0 : Int).toNat * 2)) = some (.int .i64 g40.1) ∧ w41.cell? ((p39.add ((0 : Int).toNat * 2)).add 1) = some (.slice g40.2.a g40.2.n g40.2.c))) ∧
                                    ((withW (w38.alloc (.cells #[] 33)) fun w42 =>
                                      (S31 w42 ∧
                                       ((appendR (⟨(some (⟨w38.heap.size, 0, none⟩ : Addr)), 0, 0⟩) a0 2 32 [.int .i64 0, .slice none 0 0] 33 w42 fun (s43 : SV) w44 =>
                                        (S31 w44 ∧
                                        (withW (w44.alloc (.cells #[.int .i64 g40.1, .slice g40.2.a g40.2.n g40.2.c] 33)) fun w45 =>
                                        (S31 w45 ∧
                                        (appendR s43 (⟨(some (⟨w44.heap.size, 0, none⟩ : Addr)), 1, 1⟩) 2 32 [.int .i64 0, .slice none 0 0] 33 w45 fun (s46 : SV) w47 =>
                                        (S31 w47 ∧
                                        (c_valid_Order s46 w47 fun (x48 : Bool) w49 =>
                                        (S31 w49 ∧
                                        (bsplit (!x48)
                                        ((c_scarplaw16_awake  w49 fun (x50 : Bool) w51 =>
                                        (S31 w51 ∧
                                        post (x50) w51)))
                                        (post (false) w49)))))))))) ∧
                                        (withW (w42.alloc (.cells #[.int .i64 g40.1, .slice g40.2.a g40.2.n g40.2.c] 33)) fun w52 =>
                                        (S31 w52 ∧
                                        (appendR (⟨(some (⟨w38.heap.size, 0, none⟩ : Addr)), 0, 0⟩) a0 2 32 [.int .i64 0, .slice none 0 0] 33 w52 fun (s53 : SV) w54 =>
                                        (S31 w54 ∧
                                        (appendR s53 (⟨(some (⟨w42.heap.size, 0, none⟩ : Addr)), 1, 1⟩) 2 32 [.int .i64 0, .slice none 0 0] 33 w54 fun (s55 : SV) w56 =>
                                        (S31 w56 ∧
                                        (c_valid_Order s55 w56 fun (x57 : Bool) w58 =>
                                        (S31 w58 ∧
                                        (bsplit (!x57)
                                        ((c_scarplaw16_awake  w58 fun (x59 : Bool) w60 =>
                                        (S31 w60 ∧
                                        post (x59) w60)))
                                        (post (false) w58))))))))))))) ∧
                                     (withW (w38.alloc (.cells #[.int .i64 g40.1, .slice g40.2.a g40.2.n g40.2.c] 33)) fun w61 =>
                                      (S31 w61 ∧
                                       (withW (w61.alloc (.cells #[] 33)) fun w62 =>
                                        (S31 w62 ∧
                                        (appendR (⟨(some (⟨w61.heap.size, 0, none⟩ : Addr)), 0, 0⟩) a0 2 32 [.int .i64 0, .slice none 0 0] 33 w62 fun (s63 : SV) w64 =>
                                        (S31 w64 ∧
                                        (appendR s63 (⟨(some (⟨w38.heap.size, 0, none⟩ : Addr)), 1, 1⟩) 2 32 [.int .i64 0, .slice none 0 0] 33 w64 fun (s65 : SV) w66 =>
                                        (S31 w66 ∧
                                        (c_valid_Order s65 w66 fun (x67 : Bool) w68 =>
                                        (S31 w68 ∧
                                        (bsplit (!x67)
                                        ((c_scarplaw16_awake  w68 fun (x69 : Bool) w70 =>
                                        (S31 w70 ∧
                                        post (x69) w70)))
                                        (post (false) w68)))))))))))))))))
                                (((post (false) w38 ∧
                                   post (false) w38) ∧
                                  post (false) w38))))))
                            (((post (false) w36 ∧
                               post (false) w36) ∧
                              post (false) w36)))))))
                       (((post (false) w34 ∧
                          post (false) w34) ∧
                         post (false) w34)))))))))))))))))))))))
theorem scarplaw16_ValidRows_vc (a0 : SV) (w : World) (post : RT [.cell (.bool)] → World → Prop) : vcF Try.prog tab Try.f6 [.cell (.bool)] [.slice a0.a a0.n a0.c] w post = f_scarplaw16_ValidRows a0 w post := by kernel_rfl
theorem scarplaw16_ValidRows_ok : okFn Try.f6 1 = true := by kernel_rfl
theorem scarplaw16_ValidRows_go {w : World} {a0 : SV} {post : RT [.cell (.bool)] → World → Prop} (h : f_scarplaw16_ValidRows a0 w post) : c_scarplaw16_ValidRows a0 w post :=
    calls_of_vc tab_ok Try.func6 (rs := [.cell (.bool)]) (av := [.slice a0.a a0.n a0.c]) scarplaw16_ValidRows_ok (Eq.mpr (scarplaw16_ValidRows_vc a0 w post) h)
end Go.Proofs.Ytbolgpjcmchfoaa
