/- The law 'TxnMany', walked. -/
import Derived.Test.YtbolgpjcmchfoaaGreatLe
namespace Go.Proofs.YtbolgpjcmchfoaaGreat
open Go Go.Vc Go.Sl Go.Mo
/-- The end of the law: one more is begun, the first one is no handle any more. -/
theorem many_end {a N : Nat} {M : Mgr} {R : HP} {w w0 : World} {K : Bool → World → Prop} (I : Room M) (ok : MgrOk N M) (hN : N ≤ 2 ^ 10) (h : Sat (mgrA (some ⟨a, 0, none⟩) M * (R * whole w0)) w) (hk : ∀ w', Keep w0 w' → K true w') :
    c_txn_Manager_Begin (some ⟨a, 0, none⟩) w fun x w1 => bsplit (decide ((x.2 : Int) = 0)) (c_txn_Manager_Abort (some ⟨a, 0, none⟩) 1 w1 fun y w2 => bsplit (decide ((y : Int) = 5)) (c_scarplaw23_awake w2 fun z w3 => K z w3) (K false w2)) (K false w1) := by
  obtain ⟨e1, e2⟩ := room_begin I
  refine ok_begin h ok (by omega) fun w1 ok1 h1 => ?_
  rw [e1]
  refine bsplit_decide.2 ⟨fun _ => ?_, fun e => absurd rfl e⟩
  refine ok_abort h1 ok1 fun w2 _ h2 => ?_
  rw [e2]
  refine bsplit_decide.2 ⟨fun _ => ?_, fun e => absurd rfl e⟩
  exact awake_c fun w3 k3 => hk _ ((Keep.whole h2.right.right).trans k3)
theorem many_c {n how : Int} {w : World} {K : Bool → World → Prop} (hk : ∀ w', Keep w w' → K true w') : c_scarplaw23_TxnMany n how w K := by
  refine scarplaw23_TxnMany_go ?_
  unfold f_scarplaw23_TxnMany
  refine bsplit_decide.2 ⟨fun _ => awake_c hk, fun h1 => bsplit_decide.2 ⟨fun _ => awake_c hk, fun h2 => ?_⟩⟩
  refine mgr_new (n := 5) (last := 0) (sat_whole w) (by omega) (by omega) fun a w2 h => ?_
  refine bsplit_iff.2 ⟨fun e => (by cases e), fun _ => bsplit_iff.2 ⟨fun e => (by cases e), fun _ => ?_⟩⟩
  refine loop_i (fun (x : Bool × Int) w' => ∃ (i : Nat) (M : Mgr), x.2 = i ∧ (i : Int) ≤ n ∧ Many i M ∧ MgrOk i M ∧ Sat (mgrA (some ⟨a, 0, none⟩) M * whole w) w') (fun x _ => (n - x.2).toNat)
    ⟨0, Mgr.new 5 0, rfl, by omega, many_new, mgrOk_new (by omega) (by omega), h⟩ ?_
  rintro ⟨y, x⟩ w8 ⟨i, M, hx, hi, I, ok, hw⟩
  simp only at hx; subst hx
  dsimp only
  refine bsplit_decide.2 ⟨fun hlt => ?_, fun hge => ?_⟩
  · refine ok_begin hw ok (by omega) fun w11 ok1 h11 => ?_
    have e1 : IntKind.i64.wrap ((i : Int) + 1) = ((i + 1 : Nat) : Int) := by rw [wrap_of (by omega) (by omega)]; omega
    have nxt : (∃ (j : Nat) (M : Mgr), IntKind.i64.wrap ((i : Int) + 1) = j ∧ (j : Int) ≤ n ∧ Many j M ∧ MgrOk j M ∧ Sat (mgrA (some ⟨a, 0, none⟩) M * whole w) w11) ∧ (n - IntKind.i64.wrap ((i : Int) + 1)).toNat < (n - (i : Int)).toNat :=
      ⟨⟨i + 1, M.begin.1, e1, by omega, many_next I, ok1, h11⟩, by rw [e1]; omega⟩
    rw [many_open I]
    by_cases hi16 : i < 16
    · rw [if_pos hi16]
      have : decide ((i : Int) < 16) = true := by simp; omega
      rw [this]
      exact bsplit_iff.2 ⟨fun e => (by simp at e), fun _ => bsplit_iff.2 ⟨fun e => (by simp at e), fun _ => nxt⟩⟩
    · rw [if_neg hi16]
      have : decide ((i : Int) < 16) = false := by simp; omega
      rw [this]
      exact bsplit_iff.2 ⟨fun e => (by simp at e), fun _ => bsplit_iff.2 ⟨fun _ => bsplit_iff.2 ⟨fun e => (by simp at e), fun _ => bsplit_iff.2 ⟨fun e => (by simp at e), fun _ => nxt⟩⟩, fun e => (by simp at e)⟩⟩
  · obtain rfl : (i : Int) = n := by omega
    refine bsplit_decide.2 ⟨fun h0 => ?_, fun h0 => ?_⟩
    · obtain rfl : i = 0 := by omega
      refine ok_abort hw ok fun w13 _ h13 => ?_
      have hno : M.opn 1 = none := by
        cases e : M.opn 1 with
        | none => rfl
        | some T =>
          obtain ⟨B, J, _⟩ := ok
          have := J.key (opn_lkp e).1
          have := I.blast
          omega
      have : (M.abort 1).2 = 5 := by unfold Mgr.abort; rw [hno]
      rw [this]
      refine bsplit_decide.2 ⟨fun _ => ?_, fun e => absurd rfl e⟩
      exact awake_c fun w' kw => hk _ ((Keep.whole h13.right).trans kw)
    · have hT := I.a1 (by omega)
      have hop : M.opn 1 = some F0 := opn_of hT rfl
      have ht : ∃ v, lkp M.book.times 1 = some v := ⟨0, I.t1 (by omega)⟩
      have hlst : 0 ≤ M.last ∧ M.last ≤ 1099511627776 := by rw [I.last]; omega
      have hbl : 1 ≤ M.book.last := by rw [I.blast]; omega
      have hw' : Sat (mgrA (some ⟨a, 0, none⟩) M * (1 * whole w)) w8 := hw.eq (by rw [one_mul'])
      refine round_c (by omega) (by omega) ?_
      refine bsplit_decide.2 ⟨fun _ => ?_, fun c0 => bsplit_decide.2 ⟨fun _ => ?_, fun c1 => bsplit_decide.2 ⟨fun _ => ?_, fun c2 => by omega⟩⟩⟩
      · refine ok_abort hw' ok fun w19 ok1 h19 => ?_
        have he : (M.abort 1).1 = M.end_ 1 4 0 := by unfold Mgr.abort; rw [hop]
        rw [he] at ok1 h19
        exact many_end (room_end hT ht I.len (by omega) I.most hbl hlst) ok1 (by omega) h19 hk
      · refine ok_commit hw' ok (by omega) fun w27 ok1 h27 => ?_
        have he : (M.commit 1).1 = ({ M with all := put M.all 1 { F0 with time := F0.at_ } } : Mgr).end_ 1 3 0 := by unfold Mgr.commit; rw [hop]; rfl
        rw [he] at ok1 h27
        exact many_end (room_end (M := { M with all := put M.all 1 { F0 with time := F0.at_ } }) (lkp_put_self _ _ _) ht I.len (by omega) I.most hbl hlst) ok1 (by omega) h27 hk
      · refine data_c hw fun s w35 hs h35 => ?_
        rw [withW_iff]
        have h36 := h35.alloc (.cells #[.int .i64 0, .slice s.a s.n s.c] 33)
        generalize hd : blockB 40 1 = d at h36
        have hdl : d.length = 40 := by rw [← hd, blockB_length]
        generalize w35.heap.size = bn at h36 ⊢
        have hb5 : M.m.blocks = 5 := by rw [I.m]
        have hwr : M.write 1 [⟨0, d⟩] = ({ M with all := put M.all 1 { F0 with buf := ⟨5, 16, [(0, d)]⟩ } }, 0) := by
          unfold Mgr.write
          rw [hop]
          simp [F0, Buf.write, outOf, badLen, hdl, twiceM, newOnes, putsIn, put, lkp]
        refine ok_write (l := [⟨0, d⟩]) (h36.eq (by ac_rfl : _ = mgrA (some ⟨a, 0, none⟩) M * ((pt bn (.cells #[.int .i64 0, .slice s.a s.n s.c] 33) * ownS 1 s (bytesV d)) * whole w))) ok (fun w' hw' => put1_on (hw'.eq (mul_assoc' _ _ _)) rfl) (by simp) fun w38 ok38 h38 => ?_
        rw [hwr] at h38 ok38
        generalize hM1 : ({ M with all := put M.all 1 { F0 with buf := ⟨5, 16, [(0, d)]⟩ } } : Mgr) = M1 at h38 ok38
        have hop1 : M1.opn 1 = some { F0 with buf := ⟨5, 16, [(0, d)]⟩ } := opn_of (by rw [← hM1]; exact lkp_put_self _ _ _) rfl
        have hmay : M1.may { F0 with buf := ⟨5, 16, [(0, d)]⟩ } = 0 := by
          have hv : M1.m.vers = [] := by rw [← hM1]; show M.m.vers = []; rw [I.m]
          have hq : M1.waiting = [] := by rw [← hM1]; show M.queue.filterMap _ = []; rw [I.queue]; rfl
          unfold Mgr.may
          rw [if_neg (by rw [← hM1]; show ¬ M.read = true; rw [I.read]; simp), hq, valid_nil hv]
          rw [if_neg (by simp), if_neg (by rw [← hM1]; show ¬ _ ≤ M.given; rw [I.given]; omega)]
        have hc : M1.commit 1 = ({ M1 with given := 1, all := put M1.all 1 { F0 with state := 2, time := 1, buf := ⟨5, 16, [(0, d)]⟩ }, queue := [1] }, 0) := by
          have hg : M1.given = 0 := by rw [← hM1]; exact I.given
          have hq : M1.queue = [] := by rw [← hM1]; exact I.queue
          unfold Mgr.commit
          rw [hop1]
          simp only []
          rw [if_neg (by simp), hmay]
          simp only [ne_eq, not_true_eq_false, if_false, hg, hq]
          rfl
        refine ok_commit h38 ok38 (by omega) fun w40 ok40 h40 => ?_
        rw [hc] at ok40 h40
        have hbk : M1.book = M.book := by rw [← hM1]
        have hM1o : M1.out = 0 := by rw [← hM1]; exact I.out
        have hM1m : M1.m = ⟨5, [], 0⟩ := by rw [← hM1]; exact I.m
        generalize hM2 : ({ M1 with given := 1, all := put M1.all 1 { F0 with state := 2, time := 1, buf := ⟨5, 16, [(0, d)]⟩ }, queue := [1] } : Mgr) = M2 at h40 ok40
        have hT2 : lkp M2.all 1 = some { F0 with state := 2, time := 1, buf := ⟨5, 16, [(0, d)]⟩ } := by rw [← hM2]; exact lkp_put_self _ _ _
        have hq2 : M2.queue = [1] := by rw [← hM2]
        have ho2 : M2.out = 0 := by rw [← hM2]; exact hM1o
        have hb2 : M2.book = M.book := by rw [← hM2]; exact hbk
        have hm2 : M2.m = ⟨5, [], 0⟩ := by rw [← hM2]; exact hM1m
        have hw2 : M2.waiting = [⟨1, [⟨0, d⟩]⟩] := by
          unfold Mgr.waiting
          rw [hq2]
          simp only [List.filterMap_cons, List.filterMap_nil, hT2, Option.map_some]
          rw [puts_one (k := 0) (d := d) rfl]
        refine ok_openN h40 ok40 (by omega) fun w42 k42 => ?_
        rw [hb2, I.len]
        refine bsplit_iff.2 ⟨fun e => ?_, fun _ => ?_⟩
        · exfalso
          simp only [Bool.not_eq_true', decide_eq_false_iff_not] at e
          exact e (by split <;> omega)
        refine ok_batch (k42.sat h40) ok40 (by omega) fun s' w44 ok44 h44 => ?_
        have hba : M2.batch.1 = { M2 with out := 1 } := by
          unfold Mgr.batch
          rw [if_neg (by rw [ho2]; omega), if_neg (by rw [hq2]; simp), hw2]
          simp [formL]
        rw [hba] at h44 ok44
        generalize hM3 : ({ M2 with out := 1 } : Mgr) = M3 at h44 ok44
        refine ok_done (h44.eq (by ac_rfl : _ = mgrA (some ⟨a, 0, none⟩) M3 * ((batchA s' M2.batch.2.1.2 * (pt bn (.cells #[.int .i64 0, .slice s.a s.n s.c] 33) * ownS 1 s (bytesV d))) * whole w))) ok44 (by omega) fun w46 ok46 h46 => ?_
        have hw3 : M3.waiting = [⟨1, [⟨0, d⟩]⟩] := by rw [← hM3]; exact hw2
        have hap : (M3.m.apply ⟨1, [⟨0, d⟩]⟩).1 = ⟨5, [(0, [⟨1, d⟩])], 1⟩ := by
          have : M3.m = ⟨5, [], 0⟩ := by rw [← hM3]; exact hm2
          rw [this]
          simp [XMap.apply, riseM, inB, badLen, hdl, addVer, put, versOf, lkp]
        have hdn : (M3.done 0).1 = { (({ M3 with m := (M3.m.apply ⟨1, [⟨0, d⟩]⟩).1, last := 1 } : Mgr).end_ 1 3 0) with num := M3.num + 1, queue := [], out := 0 } := by
          have hq3 : M3.queue = [1] := by rw [← hM3]; exact hq2
          have ho3 : M3.out = 1 := by rw [← hM3]
          unfold Mgr.done
          rw [if_neg (by rw [ho3]; omega), hw3, hq3, ho3]
          simp [doneOne, hq3, ho3]
        have hroom := room_end (n := i) (M := { M3 with m := (M3.m.apply ⟨1, [⟨0, d⟩]⟩).1, last := 1 }) (T := { F0 with state := 2, time := 1, buf := ⟨5, 16, [(0, d)]⟩ }) (st := 3) (code := 0) (by rw [← hM3]; exact hT2) (by rw [← hM3]; show ∃ v, lkp M2.book.times 1 = some v; rw [hb2]; exact ht) (by rw [← hM3]; show M2.book.times.length = _; rw [hb2]; exact I.len) (by omega) (by rw [← hM3]; show M2.book.most = _; rw [hb2]; exact I.most) (by rw [← hM3]; show 1 ≤ M2.book.last; rw [hb2]; exact hbl) (by simp only; omega)
        have hroom2 : Room (M3.done 0).1 := by rw [hdn]; exact ⟨hroom.most, hroom.last, hroom.len, hroom.blast, hroom.a1⟩
        exact many_end hroom2 ok46 (by omega) h46 hk
theorem many_row (a0 a1 : Int) (w : World) : Calls Tryz.prog 4 #[.int .i64 a0, .int .i64 a1] w fun e w' => e = .returned (.bool true) ∧ RowKit.Below w.heap.size w w' := row_of (many_c fun _ k => ⟨rfl, k⟩)
end Go.Proofs.YtbolgpjcmchfoaaGreat
