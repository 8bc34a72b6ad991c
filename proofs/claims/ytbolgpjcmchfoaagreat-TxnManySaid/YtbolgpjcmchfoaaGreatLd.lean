/- The law 'TxnTimes', walked. -/
import Derived.Test.YtbolgpjcmchfoaaGreatLc
namespace Go.Proofs.YtbolgpjcmchfoaaGreat
open Go Go.Vc Go.Sl Go.Mo
theorem inv1_book {B : Int} {i : Nat} {M : Mgr} (I : Inv1 B i M) (hi : i ≤ 1000) : BookOk M.book := ⟨fun p hp => by have := I.keys p hp; unfold i64ok; omega, by have := I.len; omega⟩
theorem mid1_waitok {B : Int} {i : Nat} {M : Mgr} {d : List UInt8} (I : Inv1 B i M) (hi : i ≤ 1000) : WaitOk (mid1 M i d) := by
  refine ⟨by have := I.qlen; show M.queue.length ≤ 2 ^ 20; omega, fun h hh => ?_⟩
  obtain ⟨_, h2⟩ := mid1_lkp (_d := d) I (one1 M i d 1 0 0) h hh
  obtain ⟨T, hT, j, d', hd, hl, h0, hj⟩ := I.q h hh
  refine ⟨T, h2.trans hT, ⟨fun q hq => ?_, by rw [hd]; simp⟩, by rw [hd]; simp⟩
  rw [hd] at hq
  simp only [List.mem_singleton] at hq
  subst hq
  exact ⟨by unfold i64ok; simp only; omega, by simp only [hl]; omega⟩
theorem mid1_trn {i : Nat} {M : Mgr} {d : List UInt8} (hi : i ≤ 1000) (hd : d.length = 40) : TrnOk (one1 M i d 1 0 0) :=
  ⟨⟨by simp [one1, hd, i64ok]; omega, by simp [one1]⟩, by simp [one1, lbaOk]; omega, by simp [one1], emptySet_ok, by simp [one1]⟩
/-- One transaction that writes one block of its own: begun, written, handed in. -/
theorem round1 {a : Nat} {B : Int} {i : Nat} {M : Mgr} {d : List UInt8} {R : HP} {w : World} {K : Int → World → Prop} (I : Inv1 B i M) (hi : i ≤ 1000) (hd : d.length = 40) (hB : 1 ≤ B ∧ B ≤ 1048576) (hg : 0 ≤ M.given ∧ M.given ≤ 2 ^ 41)
    (h : Sat (mgrA (some ⟨a, 0, none⟩) (mid1 M i d) * R) w) (hk : ∀ w', Sat (mgrA (some ⟨a, 0, none⟩) ((mid1 M i d).commit (i + 1)).1 * R) w' → K ((mid1 M i d).commit (i + 1)).2 w') : c_txn_Manager_Commit (some ⟨a, 0, none⟩) ((i : Int) + 1) w K := by
  refine mgr_commit (B := 0) h ⟨by show 1 ≤ M.m.blocks ∧ M.m.blocks ≤ 1048576; rw [I.m]; exact hB, by show M.m.vers.length ≤ _; rw [I.m]; simp, by show ∀ q ∈ M.m.vers, _; rw [I.m]; simp⟩ (by omega) (mid1_waitok I hi) (fun T hT => by
    rw [mid1_opn] at hT; cases hT
    exact mid1_trn hi hd) hg hk
theorem times_c {last n : Int} {w : World} {K : Bool → World → Prop} (hk : ∀ w', Keep w w' → K true w') : c_scarplaw23_TxnTimes last n w K := by
  refine scarplaw23_TxnTimes_go ?_
  unfold f_scarplaw23_TxnTimes
  refine bsplit_decide.2 ⟨fun _ => awake_c hk, fun h1 => bsplit_decide.2 ⟨fun _ => awake_c hk, fun h2 => bsplit_decide.2 ⟨fun _ => awake_c hk, fun h3 => bsplit_decide.2 ⟨fun _ => awake_c hk, fun h4 => ?_⟩⟩⟩⟩
  refine mgr_new (n := 20) (last := last) (sat_whole w) (by omega) (by omega) fun a w2 h => ?_
  refine bsplit_iff.2 ⟨fun e => (by cases e), fun _ => bsplit_iff.2 ⟨fun e => (by cases e), fun _ => ?_⟩⟩
  refine loop_i (fun (x : Bool × Int) w' => ∃ (i : Nat) (M : Mgr), x.2 = i ∧ (i : Int) ≤ n ∧ Inv1 20 i M ∧ M.last = last ∧ M.given = (if (i : Int) ≤ 1099511627776 - last then last + i else 1099511627776) ∧ Sat (mgrA (some ⟨a, 0, none⟩) M * whole w) w') (fun x _ => (n - x.2).toNat)
    ⟨0, Mgr.new 20 last, rfl, by omega, inv1_new _ _, rfl, by rw [if_pos (by simp; omega)]; simp [Mgr.new], h⟩ ?_
  rintro ⟨y, x⟩ w12 ⟨i, M, hx, hi, I, hML, hMg, hw⟩
  simp only at hx; subst hx
  dsimp only
  refine bsplit_decide.2 ⟨fun hlt => ?_, fun hge => awake_c fun w' kw => hk _ ((Keep.whole hw.right).trans kw)⟩
  have hi16 : i < 16 := by omega
  have hm : M.m.blocks = 20 := by rw [I.m]
  have hgr : 0 ≤ M.given ∧ M.given ≤ 1099511627776 := by rw [hMg]; split <;> omega
  refine mgr_begin hw (by rw [hm]; omega) (inv1_book I (by omega)) (by rw [I.last]; omega) fun w15 h15 => ?_
  have hb := inv1_begin I hi16 (by omega)
  rw [hb] at h15 ⊢
  refine bsplit_iff.2 ⟨fun e => (by simp at e), fun _ => ?_⟩
  refine data_c h15 fun s w17 hs h17 => ?_
  rw [withW_iff]
  have h18 := h17.alloc (.cells #[.int .i64 (i : Int), .slice s.a s.n s.c] 33)
  generalize hd : blockB 40 (i : Int) = d at h18
  have hdl : d.length = 40 := by rw [← hd, blockB_length]
  generalize w17.heap.size = bn at h18 ⊢
  have hwr := inv1_write (d := d) I (by omega) hdl
  refine mgr_write (l := [⟨i, d⟩]) (h18.eq (by ac_rfl : _ = mgrA (some ⟨a, 0, none⟩) { M with book := ⟨16, i + 1, put M.book.times (i + 1) M.last⟩, all := put M.all (i + 1) (freshT M) } * (pt bn (.cells #[.int .i64 (i : Int), .slice s.a s.n s.c] 33) * (ownS 1 s (bytesV d) * whole w)))) (fun w' hw' => put1_on hw' rfl) (by simp) (fun T hT => by
    unfold Mgr.opn at hT
    simp only [lkp_put_self] at hT
    rw [if_pos (show (freshT M).state = 1 from rfl)] at hT
    cases hT; simp [freshT]) fun w20 h20 => ?_
  rw [hwr] at h20 ⊢
  refine bsplit_iff.2 ⟨fun e => (by simp at e), fun _ => ?_⟩
  refine round1 I (by omega) hdl (by omega) (by omega) h20 fun w22 h22 => ?_
  refine mgr_result h22 fun w24 k24 => ?_
  have hn := inv1_next (d := d) I (by unfold lbaOk; omega) hdl
  have hc := inv1_commit (d := d) I (by unfold lbaOk; omega)
  have h25 := k24.sat h22
  have e1 : IntKind.i64.wrap ((i : Int) + 1) = ((i + 1 : Nat) : Int) := by rw [wrap_of (by omega) (by omega)]; omega
  rw [wrap_of (x := 1099511627776 - last) (by omega) (by omega)]
  have nxt : ((mid1 M i d).commit (i + 1)).1.last = last → ((mid1 M i d).commit (i + 1)).1.given = (if ((i + 1 : Nat) : Int) ≤ 1099511627776 - last then last + ((i + 1 : Nat) : Int) else 1099511627776) →
      (∃ (i_1 : Nat) (M : Mgr), IntKind.i64.wrap ((i : Int) + 1) = i_1 ∧ (i_1 : Int) ≤ n ∧ Inv1 20 i_1 M ∧ M.last = last ∧ M.given = (if (i_1 : Int) ≤ 1099511627776 - last then last + i_1 else 1099511627776) ∧ Sat (mgrA (some ⟨a, 0, none⟩) M * whole w) w24) ∧ (n - IntKind.i64.wrap ((i : Int) + 1)).toNat < (n - (i : Int)).toNat := fun a1 a2 =>
    ⟨⟨i + 1, ((mid1 M i d).commit (i + 1)).1, e1, by omega, hn, a1, a2, (h25.eq (by ac_rfl : _ = (pt bn (.cells #[.int .i64 (i : Int), .slice s.a s.n s.c] 33) * ownS 1 s (bytesV d)) * (mgrA (some ⟨a, 0, none⟩) ((mid1 M i d).commit (i + 1)).1 * whole w))).right⟩, by rw [e1]; omega⟩
  refine bsplit_decide.2 ⟨fun hA => ?_, fun hA => ?_⟩
  · have hg : ¬ 1099511627776 ≤ M.given := by rw [hMg, if_pos (by omega)]; omega
    rw [if_neg hg] at hc
    have hres : ((mid1 M i d).commit (i + 1)).1.result (i + 1) = (2, M.given + 1, 0) := by
      rw [hc]; unfold Mgr.result; simp only [lkp_put_self]; rfl
    rw [hres]
    have h0 : ((mid1 M i d).commit (i + 1)).2 = 0 := by rw [hc]
    rw [h0]
    refine bsplit_iff.2 ⟨fun e => (by simp at e), fun _ => bsplit_iff.2 ⟨fun e => (by simp at e), fun _ => ?_⟩⟩
    rw [wrap_of (x := last + i) (by omega) (by omega), wrap_of (by omega) (by omega)]
    refine bsplit_iff.2 ⟨fun e => ?_, fun _ => nxt (by rw [hc]; exact hML) (by rw [hc]; show M.given + 1 = _; rw [hMg, if_pos (by omega), if_pos (by omega)]; omega)⟩
    simp only [Bool.not_eq_true', decide_eq_false_iff_not] at e
    rw [hMg, if_pos (by omega)] at e
    exact absurd rfl e
  · have hg : 1099511627776 ≤ M.given := by rw [hMg]; split <;> omega
    rw [if_pos hg] at hc
    have hres : ((mid1 M i d).commit (i + 1)).1.result (i + 1) = (4, 0, 11) := by
      rw [hc]; unfold Mgr.result Mgr.end_; simp only [lkp_put_self]; rfl
    rw [hres]
    have h0 : ((mid1 M i d).commit (i + 1)).2 = 11 := by rw [hc]
    rw [h0]
    refine bsplit_iff.2 ⟨fun e => (by simp at e), fun _ => bsplit_iff.2 ⟨fun e => (by simp at e), fun _ => bsplit_iff.2 ⟨fun e => (by simp at e), fun _ => bsplit_iff.2 ⟨fun e => (by simp at e), fun _ => ?_⟩⟩⟩⟩
    have hend : ((mid1 M i d).end_ (i + 1) 4 11).last = M.last ∧ ((mid1 M i d).end_ (i + 1) 4 11).given = M.given := by unfold Mgr.end_; simp only [lkp_put_self, and_self]
    exact nxt (by rw [hc]; exact hend.1.trans hML) (by rw [hc]; refine hend.2.trans ?_; rw [hMg]; split <;> split <;> omega)
theorem times_row (a0 a1 : Int) (w : World) : Calls Tryz.prog 3 #[.int .i64 a0, .int .i64 a1] w fun e w' => e = .returned (.bool true) ∧ RowKit.Below w.heap.size w w' := row_of (times_c fun _ k => ⟨rfl, k⟩)
end Go.Proofs.YtbolgpjcmchfoaaGreat
