/- The example that all laws run; the law TxnNothing; transactions that write one block each; the law TxnTimes. -/
import Derived.Test.YtbolgpjcmchfoaaGreatC
import Derived.Test.YtbolgpjcmchfoaaGreatF2
/- What the document fixes: the law's own example, which all of them run. -/
namespace Go.Proofs.YtbolgpjcmchfoaaGreat
open Go Go.Vc Go.Sl Go.Mo
theorem put1_on {b t n c : Nat} {k : Int} {s : SV} {d : List UInt8} {R : HP} {w : World} (h : Sat (pt b (.cells #[.int .i64 k, .slice s.a s.n s.c] t) * (ownS 1 s (bytesV d) * R)) w) (hn : n = 1) : putsOn (hp w) ⟨some ⟨b, 0, none⟩, n, c⟩ [⟨k, d⟩] := by
  subst hn
  refine ⟨rfl, fun i hi => ?_⟩
  obtain rfl : i = 0 := by simpa using hi
  exact ⟨⟨b, 0, none⟩, s, rfl, h.cell 0, h.cell 1, byteRow_on h.right.left⟩
theorem written_nil {M : XMap} (h : M.vers = []) (e : Ext) (a : Int) : M.written e a = false := by unfold XMap.written; rw [h]; simp
theorem hitS_nil {M : XMap} (h : M.vers = []) (q : List Tx) (a : Int) (S : XSet) : hitS M q a S = q.any fun t => againstM t S := by
  have : S.l.any (hitX M a) = false := by
    rw [List.any_eq_false]
    intro x _
    simp [hitX, written_nil h]
  unfold hitS
  rw [this, Bool.false_or]
/-- Nothing written, nothing waiting: nothing conflicts. -/
theorem valid_nil {M : XMap} (h : M.vers = []) (a : Int) (r s : XSet) : validM M [] a r s = 0 := by
  unfold validM
  rw [hitS_nil h, hitS_nil h]
  simp
def aw (d : List UInt8) (st tm : Int) : Trn := ⟨st, tm, 0, 0, ⟨5, 16, [(0, d)]⟩, ⟨0, ⟨64, []⟩, []⟩⟩
theorem awake_c {w : World} {K : Bool → World → Prop} (hk : ∀ w', Keep w w' → K true w') : c_scarplaw23_awake w K := by
  refine scarplaw23_awake_go ?_
  unfold f_scarplaw23_awake
  refine mgr_new (n := 5) (last := 0) (sat_whole w) (by omega) (by omega) fun a w2 h2 => ?_
  refine bsplit_iff.2 ⟨fun e => (by cases e), fun _ => bsplit_iff.2 ⟨fun e => (by cases e), fun _ => ?_⟩⟩
  have hb : (Mgr.new 5 0).begin = ({ Mgr.new 5 0 with book := ⟨16, 1, [(1, 0)]⟩, all := [(1, freshT (Mgr.new 5 0))] }, (1, 0)) := rfl
  refine mgr_begin h2 (by decide) ⟨by simp [Mgr.new], by simp [Mgr.new]⟩ (by decide) fun w4 h4 => ?_
  rw [hb] at h4 ⊢
  refine bsplit_iff.2 ⟨fun e => (by cases e), fun _ => bsplit_iff.2 ⟨fun e => (by cases e), fun _ => ?_⟩⟩
  refine data_c h4 fun s w6 hs h6 => ?_
  rw [withW_iff]
  have h7 := h6.alloc (.cells #[.int .i64 0, .slice s.a s.n s.c] 33)
  generalize hd : blockB 40 1 = d at h7
  have hdl : d.length = 40 := by rw [← hd, blockB_length]
  have h8 : Sat (mgrA (some ⟨a, 0, none⟩) { Mgr.new 5 0 with book := ⟨16, 1, [(1, 0)]⟩, all := [(1, freshT (Mgr.new 5 0))] } * (pt w6.heap.size (.cells #[.int .i64 0, .slice s.a s.n s.c] 33) * (ownS 1 s (bytesV d) * whole w))) (w6.alloc (.cells #[.int .i64 0, .slice s.a s.n s.c] 33)) := h7.eq (by ac_rfl)
  generalize w6.heap.size = bn at h8 ⊢
  have hw : Mgr.write { Mgr.new 5 0 with book := ⟨16, 1, [(1, 0)]⟩, all := [(1, freshT (Mgr.new 5 0))] } 1 [⟨0, d⟩] = ({ Mgr.new 5 0 with book := ⟨16, 1, [(1, 0)]⟩, all := [(1, aw d 1 0)] }, 0) := by
    simp [Mgr.write, Mgr.opn, lkp, freshT, Mgr.new, Buf.write, outOf, badLen, hdl, twiceM, newOnes, putsIn, put, aw]
  refine mgr_write (l := [⟨0, d⟩]) h8 (fun w' hw' => put1_on hw' rfl) (by simp) (fun T hT => by
    simp [Mgr.opn, lkp, freshT, Mgr.new] at hT; subst hT; simp) fun w9 h9 => ?_
  rw [hw] at h9 ⊢
  refine bsplit_iff.2 ⟨fun e => (by cases e), fun _ => ?_⟩
  have hop : Mgr.opn { Mgr.new 5 0 with book := ⟨16, 1, [(1, 0)]⟩, all := [(1, aw d 1 0)] } 1 = some (aw d 1 0) := rfl
  have hmay : Mgr.may { Mgr.new 5 0 with book := ⟨16, 1, [(1, 0)]⟩, all := [(1, aw d 1 0)] } (aw d 1 0) = 0 := by
    unfold Mgr.may
    rw [if_neg (by simp [Mgr.new])]
    have : validM (Mgr.new 5 0).m (Mgr.waiting { Mgr.new 5 0 with book := ⟨16, 1, [(1, 0)]⟩, all := [(1, aw d 1 0)] }) (aw d 1 0).at_ (viewSet (aw d 1 0).view) (bufSet (aw d 1 0).buf) = 0 := valid_nil rfl _ _ _
    rw [if_neg (by simpa using this)]
    simp [Mgr.new]
  have hc : Mgr.commit { Mgr.new 5 0 with book := ⟨16, 1, [(1, 0)]⟩, all := [(1, aw d 1 0)] } 1 = ({ Mgr.new 5 0 with book := ⟨16, 1, [(1, 0)]⟩, all := [(1, aw d 2 1)], given := 1, queue := [1] }, 0) := by
    unfold Mgr.commit
    rw [hop]
    simp only []
    rw [if_neg (by simp [aw]), if_neg (by rw [hmay]; simp)]
    rfl
  refine mgr_commit (B := 0) h9 ⟨by simp [Mgr.new], by simp [Mgr.new], by simp [Mgr.new]⟩ (by omega) ⟨by simp [Mgr.new], by simp [Mgr.new]⟩ (fun T hT => by
    rw [hop] at hT; cases hT
    exact ⟨⟨by simp [aw, hdl, i64ok], by simp [aw]⟩, by simp [aw, lbaOk], by simp [aw], emptySet_ok, by simp [aw]⟩) (by simp [Mgr.new]) fun w11 h11 => ?_
  rw [hc] at h11 ⊢
  refine bsplit_iff.2 ⟨fun e => (by cases e), fun _ => ?_⟩
  have hbufok : BufOk (aw d 2 1).buf := ⟨by simp [aw, hdl, i64ok], by simp [aw]⟩
  have hwok : ∀ o : Int, WaitOk { Mgr.new 5 0 with book := ⟨16, 1, [(1, 0)]⟩, all := [(1, aw d 2 1)], given := 1, queue := [1], out := o } := fun o => ⟨by simp, fun h hh => by
    simp at hh; subst hh
    exact ⟨aw d 2 1, rfl, hbufok, by simp [aw]⟩⟩
  have hwait : ∀ o : Int, Mgr.waiting { Mgr.new 5 0 with book := ⟨16, 1, [(1, 0)]⟩, all := [(1, aw d 2 1)], given := 1, queue := [1], out := o } = [⟨1, (aw d 2 1).buf.puts⟩] := fun o => rfl
  have hba : Mgr.batch { Mgr.new 5 0 with book := ⟨16, 1, [(1, 0)]⟩, all := [(1, aw d 2 1)], given := 1, queue := [1] } = ({ Mgr.new 5 0 with book := ⟨16, 1, [(1, 0)]⟩, all := [(1, aw d 2 1)], given := 1, queue := [1], out := 1 }, (1, [⟨1, (aw d 2 1).buf.puts⟩]), 0) := by
    have hf : formL [(⟨1, (aw d 2 1).buf.puts⟩ : Tx)] 0 0 = 1 := by simp [formL]
    have hw0 := hwait 0
    unfold Mgr.batch
    rw [if_neg (by simp [Mgr.new]), if_neg (by simp)]
    simp only [] at hw0
    have : Mgr.waiting { Mgr.new 5 0 with book := ⟨16, 1, [(1, 0)]⟩, all := [(1, aw d 2 1)], given := 1, queue := [1] } = [⟨1, (aw d 2 1).buf.puts⟩] := rfl
    rw [this, hf]; rfl
  refine mgr_batch h11 (hwok 0) (by simp [Mgr.new]) fun s' w13 h13 => ?_
  rw [hba] at h13 ⊢
  refine box2 h13 fun w15 k15 h15 => ?_
  obtain ⟨M4, hM4⟩ : ∃ M4 : Mgr, M4 = { Mgr.new 5 0 with book := ⟨16, 1, [(1, 0)]⟩, all := [(1, aw d 2 1)], given := 1, queue := [1], out := 1 } := ⟨_, rfl⟩
  have h16 : Sat (mgrA (some ⟨a, 0, none⟩) M4 * (batchA s' [⟨1, (aw d 2 1).buf.puts⟩] * (pt bn (.cells #[.int .i64 0, .slice s.a s.n s.c] 33) * (ownS 1 s (bytesV d) * whole w)))) w15 := h15.right.eq (by rw [hM4]; ac_rfl)
  have hr : M4.result 1 = (2, 1, 0) := by rw [hM4]; rfl
  refine mgr_result h16 fun w17 k17 => ?_
  rw [hr]
  refine bsplit_iff.2 ⟨fun e => (by cases e), fun _ => bsplit_iff.2 ⟨fun e => (by cases e), fun _ => bsplit_iff.2 ⟨fun e => (by cases e), fun _ => bsplit_iff.2 ⟨fun e => (by cases e), fun _ => ?_⟩⟩⟩⟩
  have hw4 : M4.waiting = [⟨1, (aw d 2 1).buf.puts⟩] := by rw [hM4]; rfl
  have hdn : (M4.done 0).2 = 0 ∧ (M4.done 0).1.result 1 = (3, 1, 0) ∧ (M4.done 0).1.last = 1 := by
    unfold Mgr.done
    rw [if_neg (by rw [hM4]; simp), hw4, hM4]
    exact ⟨rfl, rfl, rfl⟩
  refine mgr_done (B := 0) (k17.sat h16) (by rw [hM4]; exact ⟨by simp [Mgr.new], by simp [Mgr.new], by simp [Mgr.new]⟩) (by omega) (by rw [hM4]; exact hwok 1) (by rw [hM4]; simp) (fun t ht => by
    rw [hw4] at ht; simp at ht; subst ht; simp [puts_length, aw]) (by rw [hM4]; simp) (by rw [hM4]; simp [Mgr.new]) fun w19 h19 => ?_
  rw [hdn.1]
  refine bsplit_iff.2 ⟨fun e => (by cases e), fun _ => ?_⟩
  refine mgr_result h19 fun w21 k21 => ?_
  rw [hdn.2.1]
  refine bsplit_iff.2 ⟨fun _ => bsplit_iff.2 ⟨fun _ => ?_, fun e => (by cases e)⟩, fun e => (by cases e)⟩
  refine mgr_last (k21.sat h19) ?_
  rw [hdn.2.2]
  exact hk _ (Keep.whole (k21.sat h19).right.right.right.right)
end Go.Proofs.YtbolgpjcmchfoaaGreat
/- Nothing is no manager: the law 'TxnNothing', walked. -/
namespace Go.Proofs.YtbolgpjcmchfoaaGreat
open Go Go.Vc Go.Sl Go.Mo
/-- What a call comes to, for a row's frame. -/
theorem row_of {f : FuncId} {av : Array Value} {w : World} (h : callsR Tryz.prog f av [.cell .bool] w fun b w' => b = true ∧ Keep w w') : Calls Tryz.prog f av w fun e w' => e = .returned (.bool true) ∧ RowKit.Below w.heap.size w w' := by
  refine Calls.mono h ?_
  rintro e w' ⟨hs, b, rfl, rfl, hk⟩
  exact ⟨rfl, hs.os, hs.tape, hs.output, hk.size, hk⟩
end Go.Proofs.YtbolgpjcmchfoaaGreat
/- The rules at transactions that write one block each and read none. -/
namespace Go.Proofs.YtbolgpjcmchfoaaGreat
open Go Go.Vc Go.Sl Go.Mo
def one1 (M : Mgr) (i : Nat) (d : List UInt8) (st tm code : Int) : Trn := ⟨st, tm, code, M.last, ⟨M.m.blocks, 16, [((i : Int), d)]⟩, ⟨M.last, ⟨64, []⟩, []⟩⟩
end Go.Proofs.YtbolgpjcmchfoaaGreat
/- The law 'TxnTimes', walked. -/
namespace Go.Proofs.YtbolgpjcmchfoaaGreat
open Go Go.Vc Go.Sl Go.Mo
end Go.Proofs.YtbolgpjcmchfoaaGreat
