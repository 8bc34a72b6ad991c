/- Contracts: does a transaction conflict? -/
import Derived.Test.YtbolgpjcmchfoaaGreatCi
namespace Go.Proofs.YtbolgpjcmchfoaaGreat
open Go Go.Vc Go.Sl Go.Mo
theorem against1_c {x : Put} {d : SV} {c : Nat} {p : Option Addr} {S : XSet} {R : HP} {w : World} {K : Bool → World → Prop} (h : Sat (setA p S * R) w) (ok : SetOk S) (hc : w.cell? ⟨c, 0, none⟩ = some (.pointer p)) (hk : ∀ w', Keep w w' → K (S.has x.lba) w') : c_valid_Against_1 x.lba d (some ⟨c, 0, none⟩) w K := by
  refine valid_Against_1_go ?_
  unfold f_valid_Against_1
  rw [withW_iff, onP_some]
  have k1 := Keep.alloc w (.cells #[.int .i64 x.lba, .slice d.a d.n d.c] 33)
  exact ⟨p, keep_cell k1 hc, x.lba, by rw [World.cell?_alloc_new]; rfl, set_has (k1.sat h) ok fun w' kw => hk _ (k1.trans kw)⟩
theorem against_c {t : Tx} {s : SV} {p : Option Addr} {S : XSet} {R : HP} {w : World} {K : Bool → World → Prop} (h : Sat (setA p S * R) w) (ok : SetOk S) (hl : putsOn (hp w) s t.puts) (hn : t.puts.length ≤ 2 ^ 60) (hk : ∀ w', Keep w w' → K (againstM t S) w') : c_valid_Against t.time s p w K := by
  refine valid_Against_go ?_
  unfold f_valid_Against
  simp only [withW_iff]
  have k1 := Keep.alloc w (.cells #[.int .i64 t.time, .slice s.a s.n s.c] 70)
  have k2 := Keep.alloc (w.alloc (.cells #[.int .i64 t.time, .slice s.a s.n s.c] 70)) (.cells #[.pointer p] 171)
  refine ⟨s, by rw [add_mk, World.cell?_alloc_lt _ _ _ (by simp), World.cell?_alloc_new]; rfl, ?_⟩
  have hc : ((w.alloc (.cells #[.int .i64 t.time, .slice s.a s.n s.c] 70)).alloc (.cells #[.pointer p] 171)).cell? ⟨(w.alloc (.cells #[.int .i64 t.time, .slice s.a s.n s.c] 70)).heap.size, 0, none⟩ = some (.pointer p) := by rw [World.cell?_alloc_new]; rfl
  have kk := k1.trans k2
  generalize (w.alloc (.cells #[.int .i64 t.time, .slice s.a s.n s.c] 70)).heap.size = bx at hc ⊢
  generalize (w.alloc (.cells #[.int .i64 t.time, .slice s.a s.n s.c] 70)).alloc (.cells #[.pointer p] 171) = w2 at hc kk ⊢
  refine slices_ContainsFunc_api_Put_api_Put_at_valid_Against_1_go ?_
  refine slices_IndexFunc_api_Put_api_Put_at_valid_Against_1_go ?_
  refine find_puts (p := fun x => S.has x.lba) (post := fun r w => K (decide (0 ≤ r)) w) (call := fun a d w K => c_valid_Against_1 a d (some ⟨bx, 0, none⟩) w K) (putsOn_le (keep_le kk) hl) hn (fun x _ d w' K kw _ hk => against1_c ((kk.trans kw).sat h) ok (keep_cell kw hc) hk) fun r w' hw hr => ?_
  rw [hr]
  exact hk _ (kk.trans hw)
theorem valid_c {B : Nat} {pm pr ps : Option Addr} {M : XMap} {q : SV} {l : List Tx} {at_ : Int} {Sr Ss : XSet} {R1 R2 R3 : HP} {w : World} {K : Int → World → Prop} (hM : Sat (xmapA pm M * R1) w) (okM : XOk B M) (hB : B ≤ 2 ^ 31) (hr : Sat (setA pr Sr * R2) w) (okr : SetOk Sr) (hs : Sat (setA ps Ss * R3) w) (oks : SetOk Ss)
    (hq : txsOn (hp w) q l) (hql : l.length ≤ 2 ^ 40 ∧ ∀ t ∈ l, t.puts.length ≤ 2 ^ 40) (hk : ∀ w', Keep w w' → K (validM M l at_ Sr Ss) w') : c_valid_Check pm q at_ pr ps w K := by
  refine valid_Check_go (set_count hs oks fun w2 k2 => bsplit_decide.2 ⟨fun h0 => ?_, fun h0 => ?_⟩)
  · have : validM M l at_ Sr Ss = 0 := by unfold validM; rw [if_pos h0]
    rw [← this]; exact hk _ k2
  have hval : validM M l at_ Sr Ss = if hitS M l at_ Sr || hitS M l at_ Ss then 8 else 0 := by unfold validM; rw [if_neg h0]
  have hyes : (hitS M l at_ Sr || hitS M l at_ Ss) = true → ∀ w', Keep w w' → K 8 w' := fun h w' kw => by have := hk w' kw; rw [hval, if_pos h] at this; exact this
  have w01 : IntKind.i64.wrap ((0 : Int) + 1) = 1 := by rw [wrap_of (by omega) (by omega)]; rfl
  have w12 : IntKind.i64.wrap ((1 : Int) + 1) = 2 := by rw [wrap_of (by omega) (by omega)]; rfl
  have hqn := hq.1
  -- one of the two sets
  have one : ∀ (p : Option Addr) (S : XSet) (R : HP) (w4 : World) (nxt : Int → World → Prop), Keep w w4 → Sat (setA p S * R) w → SetOk S → (hitS M l at_ S = true → ∀ w', Keep w w' → K 8 w') → (hitS M l at_ S = false → ∀ w', Keep w w' → nxt 0 w') →
      c_ival_Set_Extents p w4 fun (x7 : SV) w8 =>
          (loopR (α := Int × Int) ((0 : Int), 0) w8 fun x9 w10 next11 =>
           (bsplit (decide ((x9.2 : Int) < ((x7.n : Nat) : Int)))
            ((0 ≤ (x9.2 : Int) ∧ (x9.2 : Int) < ((x7.n : Nat) : Int) ∧
              (onP x7.a fun p12 =>
               (∃ g13 : Int × Int, (w10.cell? (p12.add ((x9.2 : Int).toNat * 2)) = some (.int .i64 g13.1) ∧ w10.cell? ((p12.add ((x9.2 : Int).toNat * 2)).add 1) = some (.int .i64 g13.2)) ∧
                (withW (w10.alloc (.cells #[.int .i64 0, .int .i64 0] 56)) fun w14 =>
                 ((((∃ u, w14.cell? (⟨w10.heap.size, 0, none⟩ : Addr) = some u) ∧ w14.frozen? (⟨w10.heap.size, 0, none⟩ : Addr) = false) ∧ ((∃ u, w14.cell? ((⟨w10.heap.size, 0, none⟩ : Addr).add 1) = some u) ∧ w14.frozen? ((⟨w10.heap.size, 0, none⟩ : Addr).add 1) = false)) ∧ (true = true) ∧
                  (withW ((w14.setCell (⟨w10.heap.size, 0, none⟩ : Addr) (.int .i64 g13.1)).setCell ((⟨w10.heap.size, 0, none⟩ : Addr).add 1) (.int .i64 g13.2)) fun w15 =>
                   (∃ n16 : Int, (w15.cell? (⟨w10.heap.size, 0, none⟩ : Addr) = some (.int .i64 n16)) ∧
                    (∃ n17 : Int, (w15.cell? ((⟨w10.heap.size, 0, none⟩ : Addr).add 1) = some (.int .i64 n17)) ∧
                     (withW (w15.alloc (.cells #[.int .i64 0, .int .i64 0] 56)) fun w18 =>
                      ((((∃ u, w18.cell? (⟨w15.heap.size, 0, none⟩ : Addr) = some u) ∧ w18.frozen? (⟨w15.heap.size, 0, none⟩ : Addr) = false) ∧ ((∃ u, w18.cell? ((⟨w15.heap.size, 0, none⟩ : Addr).add 1) = some u) ∧ w18.frozen? ((⟨w15.heap.size, 0, none⟩ : Addr).add 1) = false)) ∧ (true = true) ∧
                       (withW ((w18.setCell (⟨w15.heap.size, 0, none⟩ : Addr) (.int .i64 (IntKind.i64.wrap ((IntKind.i64.wrap (n16 + n17)) - 1)))).setCell ((⟨w15.heap.size, 0, none⟩ : Addr).add 1) (.int .i64 1)) fun w19 =>
                        (∃ n20 : Int, (w19.cell? ((⟨w10.heap.size, 0, none⟩ : Addr).add 1) = some (.int .i64 n20)) ∧
                         ((((∃ u, w19.cell? ((⟨w10.heap.size, 0, none⟩ : Addr).add 1) = some u) ∧ w19.frozen? ((⟨w10.heap.size, 0, none⟩ : Addr).add 1) = false)) ∧ (true = true) ∧
                          (withW (w19.setCell ((⟨w10.heap.size, 0, none⟩ : Addr).add 1) (.int .i64 (if (1048576 : Int) < n20 then 1048576 else n20))) fun w21 =>
                           (∃ g22 : Int × Int, (w21.cell? (⟨w10.heap.size, 0, none⟩ : Addr) = some (.int .i64 g22.1) ∧ w21.cell? ((⟨w10.heap.size, 0, none⟩ : Addr).add 1) = some (.int .i64 g22.2)) ∧
                            (c_extmap_Map_Written pm g22.1 g22.2 at_ w21 fun (x23 : Bool) w24 =>
                             (bsplit x23
                              (K 8 w24)
                              ((∃ g25 : Int × Int, (w24.cell? (⟨w15.heap.size, 0, none⟩ : Addr) = some (.int .i64 g25.1) ∧ w24.cell? ((⟨w15.heap.size, 0, none⟩ : Addr).add 1) = some (.int .i64 g25.2)) ∧
                                (c_extmap_Map_Written pm g25.1 g25.2 at_ w24 fun (x26 : Bool) w27 =>
                                 (bsplit x26
                                  (K 8 w27)
                                  (next11 (x9.1, (IntKind.i64.wrap (x9.2 + 1))) w27)))))))))))))))))))))))
            ((loopR (α := Int × Int) (x9.1, 0) w10 fun x28 w29 next30 =>
              (bsplit (decide ((x28.2 : Int) < ((q.n : Nat) : Int)))
               ((0 ≤ (x28.2 : Int) ∧ (x28.2 : Int) < ((q.n : Nat) : Int) ∧
                 (onP q.a fun p31 =>
                  (∃ g32 : Int × SV, (w29.cell? (p31.add ((x28.2 : Int).toNat * 2)) = some (.int .i64 g32.1) ∧ w29.cell? ((p31.add ((x28.2 : Int).toNat * 2)).add 1) = some (.slice g32.2.a g32.2.n g32.2.c)) ∧
                   (withW (w29.alloc (.cells #[.int .i64 0, .slice none 0 0] 70)) fun w33 =>
                    ((((∃ u, w33.cell? (⟨w29.heap.size, 0, none⟩ : Addr) = some u) ∧ w33.frozen? (⟨w29.heap.size, 0, none⟩ : Addr) = false) ∧ ((∃ u, w33.cell? ((⟨w29.heap.size, 0, none⟩ : Addr).add 1) = some u) ∧ w33.frozen? ((⟨w29.heap.size, 0, none⟩ : Addr).add 1) = false)) ∧ (true = true) ∧
                     (withW ((w33.setCell (⟨w29.heap.size, 0, none⟩ : Addr) (.int .i64 g32.1)).setCell ((⟨w29.heap.size, 0, none⟩ : Addr).add 1) (.slice g32.2.a g32.2.n g32.2.c)) fun w34 =>
                      (∃ g35 : Int × SV, (w34.cell? (⟨w29.heap.size, 0, none⟩ : Addr) = some (.int .i64 g35.1) ∧ w34.cell? ((⟨w29.heap.size, 0, none⟩ : Addr).add 1) = some (.slice g35.2.a g35.2.n g35.2.c)) ∧
                       (c_valid_Against g35.1 g35.2 p w34 fun (x36 : Bool) w37 =>
                        (bsplit x36
                         (K 8 w37)
                         (next30 (x28.1, (IntKind.i64.wrap (x28.2 + 1))) w37)))))))))))
               (nxt x28.1 w29)))))) := by
    intro p S R w4 nxt k4 hS okS hhit hmiss
    have hb := okS.2
    refine set_extents (k4.sat hS) (by omega) fun x7 w8 h8 => ?_
    have k8 : Keep w w8 := k4.trans (Keep.whole h8.right)
    have hon := extsA_on h8.left
    have hxn := hon.1
    refine loop_i (fun (x : Int × Int) w' => ∃ i : Nat, x = (0, (i : Int)) ∧ i ≤ S.l.length ∧ Keep w8 w' ∧ ∀ j (hj : j < S.l.length), j < i → hitX M at_ S.l[j] = false) (fun x _ => S.l.length - x.2.toNat) ⟨0, rfl, by omega, Keep.refl w8, fun j _ h => by omega⟩ ?_
    rintro x w10 ⟨i, rfl, hi, k10, hall⟩
    refine bsplit_decide.2 ⟨fun hlt => ?_, fun hge => ?_⟩
    · have hlt' : i < S.l.length := by simp at hlt; omega
      obtain ⟨ad, ha, hc1, hc2⟩ := (extsOn_le (keep_le k10) hon).2 i hlt'
      have hxok := okS.1 _ (List.getElem_mem hlt')
      have hhx : hitX M at_ S.l[i] = true → ∀ w', Keep w w' → K 8 w' := fun hx => hhit (by unfold hitS; rw [List.any_eq_true.2 ⟨_, List.getElem_mem hlt', hx⟩, Bool.true_or])
      have e1 : IntKind.i64.wrap ((i : Int) + 1) = ((i + 1 : Nat) : Int) := by rw [wrap_of (by omega) (by omega)]; omega
      have hnx : ∀ w', Keep w8 w' → hitX M at_ S.l[i] = false → (∃ i_1 : Nat, ((0 : Int), IntKind.i64.wrap ((i : Int) + 1)) = (0, (i_1 : Int)) ∧ i_1 ≤ S.l.length ∧ Keep w8 w' ∧ ∀ j (hj : j < S.l.length), j < i_1 → hitX M at_ S.l[j] = false) ∧ S.l.length - (IntKind.i64.wrap ((i : Int) + 1)).toNat < S.l.length - (i : Int).toNat := fun w' kw hx => by
        refine ⟨⟨i + 1, by rw [e1], by omega, kw, fun j hj hji => ?_⟩, by rw [e1]; simp; omega⟩
        rcases Nat.lt_succ_iff_lt_or_eq.1 hji with h' | h'
        · exact hall j hj h'
        · subst h'; exact hx
      generalize S.l[i] = e at *
      unfold okE at hxok
      refine ⟨by omega, by omega, onP_i ha ⟨(e.first, e.len), ⟨hc1, hc2⟩, box2 (sat_whole w10) fun w15 k15 h15 => ?_⟩⟩
      refine ⟨e.first, (objA_cells h15).1 0, e.len, by rw [add_mk]; exact (objA_cells h15).1 1, box2 h15 fun w19 k19 h19 => ?_⟩
      have h19' : Sat (objA (some ⟨w10.heap.size, 0, none⟩) [.int .i64 e.first, .int .i64 e.len] * (objA (some ⟨w15.heap.size, 0, none⟩) [.int .i64 (IntKind.i64.wrap ((IntKind.i64.wrap (e.first + e.len)) - 1)), .int .i64 1] * whole w10)) w19 := h19.eq (by ac_rfl)
      refine ⟨e.len, by rw [add_mk]; exact (objA_cells h19').1 1, ?_⟩
      rw [add_mk]
      refine objA_store (i := 1) h19' (by simp) fun w21 h21 => ?_
      simp only [List.set_cons_succ, List.set_cons_zero] at h21
      have k21 : Keep w10 w21 := Keep.whole h21.right.right
      have kw21 : Keep w w21 := k8.trans (k10.trans k21)
      refine ⟨(e.first, if (1048576 : Int) < e.len then 1048576 else e.len), ⟨(objA_cells h21).1 0, (objA_cells h21).1 1⟩, ?_⟩
      refine xmap_written (e := ⟨e.first, if (1048576 : Int) < e.len then 1048576 else e.len⟩) (kw21.sat hM) okM hB fun w24 k24 => bsplit_iff.2 ⟨fun hw => hhx (by unfold hitX; rw [hw, Bool.true_or]) _ (kw21.trans k24), fun hw => ?_⟩
      have h24 := k24.sat h21.right
      rw [wrap_of (x := e.first + e.len) (by omega) (by omega), wrap_of (by omega) (by omega)] at h24
      refine ⟨(e.first + e.len - 1, 1), ⟨(objA_cells h24).1 0, by rw [add_mk]; exact (objA_cells h24).1 1⟩, ?_⟩
      refine xmap_written (e := ⟨e.first + e.len - 1, 1⟩) ((kw21.trans k24).sat hM) okM hB fun w27 k27 => bsplit_iff.2 ⟨fun hw2 => hhx (by unfold hitX; rw [hw2, Bool.or_true]) _ ((kw21.trans k24).trans k27), fun hw2 => ?_⟩
      exact hnx _ (k10.trans (k21.trans (k24.trans k27))) (by unfold hitX; rw [hw, hw2]; rfl)
    · obtain rfl : i = S.l.length := by simp at hge; omega
      have hno : S.l.any (hitX M at_) = false := by
        rw [List.any_eq_false]
        intro x hx
        obtain ⟨j, hj, rfl⟩ := List.getElem_of_mem hx
        simpa using hall j hj hj
      have k10' : Keep w w10 := k8.trans k10
      refine loop_i (fun (x : Int × Int) w' => ∃ i : Nat, x = (0, (i : Int)) ∧ i ≤ l.length ∧ Keep w w' ∧ ∀ j (hj : j < l.length), j < i → againstM l[j] S = false) (fun x _ => l.length - x.2.toNat) ⟨0, rfl, by omega, k10', fun j _ h => by omega⟩ ?_
      rintro x w29 ⟨i, rfl, hi, k29, hall2⟩
      refine bsplit_decide.2 ⟨fun hlt => ?_, fun hge2 => ?_⟩
      · have hlt' : i < l.length := by simp at hlt; omega
        obtain ⟨ad, d, ha, hc1, hc2, hd⟩ := (txsOn_le (keep_le k29) hq).2 i hlt'
        have hpl := hql.2 _ (List.getElem_mem hlt')
        refine ⟨by omega, by omega, onP_i ha ⟨(l[i].time, d), ⟨hc1, hc2⟩, box2 (sat_whole w29) fun w34 k34 h34 => ?_⟩⟩
        refine ⟨(l[i].time, d), ⟨(objA_cells h34).1 0, by rw [add_mk]; exact (objA_cells h34).1 1⟩, ?_⟩
        refine against_c ((k29.trans k34).sat hS) okS (putsOn_le (keep_le k34) hd) (by omega) fun w37 k37 => bsplit_iff.2 ⟨fun hw => ?_, fun hw => ?_⟩
        · refine hhit ?_ _ ((k29.trans k34).trans k37)
          unfold hitS
          rw [List.any_eq_true.2 ⟨_, List.getElem_mem hlt', hw⟩, Bool.or_true]
        · have e1 : IntKind.i64.wrap ((i : Int) + 1) = ((i + 1 : Nat) : Int) := by rw [wrap_of (by omega) (by omega)]; omega
          refine ⟨⟨i + 1, by rw [e1], by omega, (k29.trans k34).trans k37, fun j hj hji => ?_⟩, by simp only [e1]; omega⟩
          rcases Nat.lt_succ_iff_lt_or_eq.1 hji with h' | h'
          · exact hall2 j hj h'
          · subst h'; exact hw
      · obtain rfl : i = l.length := by simp at hge2; omega
        refine hmiss ?_ _ k29
        unfold hitS
        rw [hno, Bool.false_or, List.any_eq_false]
        intro x hx
        obtain ⟨j, hj, rfl⟩ := List.getElem_of_mem hx
        simpa using hall2 j hj hj
  refine loop_i (fun (x : Int × Int) w' => Keep w w' ∧ (x = (0, 0) ∨ (x = (0, 1) ∧ hitS M l at_ Sr = false) ∨ (x = (0, 2) ∧ hitS M l at_ Sr = false ∧ hitS M l at_ Ss = false))) (fun x _ => 2 - x.2.toNat) ⟨k2, .inl rfl⟩ ?_
  rintro x w4 ⟨k4, rfl | ⟨rfl, hr0⟩ | ⟨rfl, hr0, hs0⟩⟩
  · refine bsplit_decide.2 ⟨fun _ => ⟨by omega, by omega, pr, rfl, ?_⟩, fun hge => by omega⟩
    exact one pr Sr R2 w4 (fun c w29 => (Keep w w29 ∧ ((c, IntKind.i64.wrap ((0 : Int) + 1)) = (0, 0) ∨ ((c, IntKind.i64.wrap ((0 : Int) + 1)) = (0, 1) ∧ hitS M l at_ Sr = false) ∨ ((c, IntKind.i64.wrap ((0 : Int) + 1)) = (0, 2) ∧ hitS M l at_ Sr = false ∧ hitS M l at_ Ss = false))) ∧ 2 - (IntKind.i64.wrap ((0 : Int) + 1)).toNat < 2 - (0 : Int).toNat) k4 hr okr (fun h => hyes (by rw [h, Bool.true_or])) fun h w' kw => by
      rw [w01]; exact ⟨⟨kw, .inr (.inl ⟨rfl, h⟩)⟩, by omega⟩
  · refine bsplit_decide.2 ⟨fun _ => ⟨by omega, by omega, ps, rfl, ?_⟩, fun hge => by omega⟩
    exact one ps Ss R3 w4 (fun c w29 => (Keep w w29 ∧ ((c, IntKind.i64.wrap ((1 : Int) + 1)) = (0, 0) ∨ ((c, IntKind.i64.wrap ((1 : Int) + 1)) = (0, 1) ∧ hitS M l at_ Sr = false) ∨ ((c, IntKind.i64.wrap ((1 : Int) + 1)) = (0, 2) ∧ hitS M l at_ Sr = false ∧ hitS M l at_ Ss = false))) ∧ 2 - (IntKind.i64.wrap ((1 : Int) + 1)).toNat < 2 - (1 : Int).toNat) k4 hs oks (fun h => hyes (by rw [h, Bool.or_true])) fun h w' kw => by
      rw [w12]; exact ⟨⟨kw, .inr (.inr ⟨rfl, hr0, h⟩)⟩, by omega⟩
  · refine bsplit_decide.2 ⟨fun hlt => by omega, fun _ => ?_⟩
    have := hk w4 k4
    rw [hval, hr0, hs0] at this
    exact this
end Go.Proofs.YtbolgpjcmchfoaaGreat
