/- The example that all laws run; the law TxnNothing; transactions that write one block each; the law TxnTimes. -/
import Derived.Test.YtbolgpjcmchfoaaGreatC
import Derived.Test.YtbolgpjcmchfoaaGreatF2
/- What the document fixes: the law's own example, which all of them run. -/
namespace Go.Proofs.YtbolgpjcmchfoaaGreat
open Go Go.Vc Go.Sl Go.Mo
theorem put1_on {b t n c : Nat} {k : Int} {s : SV} {d : List UInt8} {R : HP} {w : World} (h : Sat (pt b (.cells #[.int .i64 k, .slice s.a s.n s.c] t) * (ownS 1 s (bytesV d) * R)) w) (hn : n = 1) : putsOn (hp w) ⟨some ⟨b, 0, none⟩, n, c⟩ [⟨k, d⟩] := by
  subst hn
  refine ⟨rfl, fun i hi => ?_⟩
  obtain rfl : i = 0 := by simpa using hi
  exact ⟨⟨b, 0, none⟩, s, rfl, h.cell 0, h.cell 1, byteRow_on h.right.left⟩
theorem sortI_one (k : Int) : sortI [k] = [k] := by
  have := (sortI_perm [k]).length_eq
  have h2 := sortI_perm [k]
  exact List.perm_singleton.1 h2
theorem written_nil {M : XMap} (h : M.vers = []) (e : Ext) (a : Int) : M.written e a = false := by unfold XMap.written; rw [h]; simp
theorem hitS_nil {M : XMap} (h : M.vers = []) (q : List Tx) (a : Int) (S : XSet) : hitS M q a S = q.any fun t => againstM t S := by
  have : S.l.any (hitX M a) = false := by
    rw [List.any_eq_false]
    intro x _
    simp [hitX, written_nil h]
  unfold hitS
  rw [this, Bool.false_or]
/-- Nothing written, nothing waiting: nothing conflicts. -/
theorem valid_nil {M : XMap} (h : M.vers = []) (a : Int) (r s : XSet) : validM M [] a r s = 0 := by
  unfold validM
  rw [hitS_nil h, hitS_nil h]
  simp
def aw (d : List UInt8) (st tm : Int) : Trn := ⟨st, tm, 0, 0, ⟨5, 16, [(0, d)]⟩, ⟨0, ⟨64, []⟩, []⟩⟩
theorem awake_c {w : World} {K : Bool → World → Prop} (hk : ∀ w', Keep w w' → K true w') : c_scarplaw23_awake w K := by
  refine scarplaw23_awake_go ?_
  unfold f_scarplaw23_awake
  refine mgr_new (n := 5) (last := 0) (sat_whole w) (by omega) (by omega) fun a w2 h2 => ?_
  refine bsplit_iff.2 ⟨fun e => (by cases e), fun _ => bsplit_iff.2 ⟨fun e => (by cases e), fun _ => ?_⟩⟩
  have hb : (Mgr.new 5 0).begin = ({ Mgr.new 5 0 with book := ⟨16, 1, [(1, 0)]⟩, all := [(1, freshT (Mgr.new 5 0))] }, (1, 0)) := rfl
  refine mgr_begin h2 (by decide) ⟨by simp [Mgr.new], by simp [Mgr.new]⟩ (by decide) fun w4 h4 => ?_
  rw [hb] at h4 ⊢
  refine bsplit_iff.2 ⟨fun e => (by cases e), fun _ => bsplit_iff.2 ⟨fun e => (by cases e), fun _ => ?_⟩⟩
  refine data_c h4 fun s w6 hs h6 => ?_
  rw [withW_iff]
  have h7 := h6.alloc (.cells #[.int .i64 0, .slice s.a s.n s.c] 33)
  generalize hd : blockB 40 1 = d at h7
  have hdl : d.length = 40 := by rw [← hd, blockB_length]
  have h8 : Sat (mgrA (some ⟨a, 0, none⟩) { Mgr.new 5 0 with book := ⟨16, 1, [(1, 0)]⟩, all := [(1, freshT (Mgr.new 5 0))] } * (pt w6.heap.size (.cells #[.int .i64 0, .slice s.a s.n s.c] 33) * (ownS 1 s (bytesV d) * whole w))) (w6.alloc (.cells #[.int .i64 0, .slice s.a s.n s.c] 33)) := h7.eq (by ac_rfl)
  generalize w6.heap.size = bn at h8 ⊢
  have hw : Mgr.write { Mgr.new 5 0 with book := ⟨16, 1, [(1, 0)]⟩, all := [(1, freshT (Mgr.new 5 0))] } 1 [⟨0, d⟩] = ({ Mgr.new 5 0 with book := ⟨16, 1, [(1, 0)]⟩, all := [(1, aw d 1 0)] }, 0) := by
    simp [Mgr.write, Mgr.opn, lkp, freshT, Mgr.new, Buf.write, outOf, badLen, hdl, twiceM, newOnes, putsIn, put, aw]
  refine mgr_write (l := [⟨0, d⟩]) h8 (fun w' hw' => put1_on hw' rfl) (by simp) (fun T hT => by
    simp [Mgr.opn, lkp, freshT, Mgr.new] at hT; subst hT; simp) fun w9 h9 => ?_
  rw [hw] at h9 ⊢
  refine bsplit_iff.2 ⟨fun e => (by cases e), fun _ => ?_⟩
  have hop : Mgr.opn { Mgr.new 5 0 with book := ⟨16, 1, [(1, 0)]⟩, all := [(1, aw d 1 0)] } 1 = some (aw d 1 0) := rfl
  have hmay : Mgr.may { Mgr.new 5 0 with book := ⟨16, 1, [(1, 0)]⟩, all := [(1, aw d 1 0)] } (aw d 1 0) = 0 := by
    unfold Mgr.may
    rw [if_neg (by simp [Mgr.new])]
    have : validM (Mgr.new 5 0).m (Mgr.waiting { Mgr.new 5 0 with book := ⟨16, 1, [(1, 0)]⟩, all := [(1, aw d 1 0)] }) (aw d 1 0).at_ (viewSet (aw d 1 0).view) (bufSet (aw d 1 0).buf) = 0 := valid_nil rfl _ _ _
    rw [if_neg (by simpa using this)]
    simp [Mgr.new]
  have hc : Mgr.commit { Mgr.new 5 0 with book := ⟨16, 1, [(1, 0)]⟩, all := [(1, aw d 1 0)] } 1 = ({ Mgr.new 5 0 with book := ⟨16, 1, [(1, 0)]⟩, all := [(1, aw d 2 1)], given := 1, queue := [1] }, 0) := by
    unfold Mgr.commit
    rw [hop]
    simp only []
    rw [if_neg (by simp [aw]), if_neg (by rw [hmay]; simp)]
    rfl
  refine mgr_commit (B := 0) h9 ⟨by simp [Mgr.new], by simp [Mgr.new], by simp [Mgr.new]⟩ (by omega) ⟨by simp [Mgr.new], by simp [Mgr.new]⟩ (fun T hT => by
    rw [hop] at hT; cases hT
    exact ⟨⟨by simp [aw, hdl, i64ok], by simp [aw]⟩, by simp [aw, lbaOk], by simp [aw], emptySet_ok, by simp [aw]⟩) (by simp [Mgr.new]) fun w11 h11 => ?_
  rw [hc] at h11 ⊢
  refine bsplit_iff.2 ⟨fun e => (by cases e), fun _ => ?_⟩
  have hbufok : BufOk (aw d 2 1).buf := ⟨by simp [aw, hdl, i64ok], by simp [aw]⟩
  have hwok : ∀ o : Int, WaitOk { Mgr.new 5 0 with book := ⟨16, 1, [(1, 0)]⟩, all := [(1, aw d 2 1)], given := 1, queue := [1], out := o } := fun o => ⟨by simp, fun h hh => by
    simp at hh; subst hh
    exact ⟨aw d 2 1, rfl, hbufok, by simp [aw]⟩⟩
  have hwait : ∀ o : Int, Mgr.waiting { Mgr.new 5 0 with book := ⟨16, 1, [(1, 0)]⟩, all := [(1, aw d 2 1)], given := 1, queue := [1], out := o } = [⟨1, (aw d 2 1).buf.puts⟩] := fun o => rfl
  have hba : Mgr.batch { Mgr.new 5 0 with book := ⟨16, 1, [(1, 0)]⟩, all := [(1, aw d 2 1)], given := 1, queue := [1] } = ({ Mgr.new 5 0 with book := ⟨16, 1, [(1, 0)]⟩, all := [(1, aw d 2 1)], given := 1, queue := [1], out := 1 }, (1, [⟨1, (aw d 2 1).buf.puts⟩]), 0) := by
    have hf : formL [(⟨1, (aw d 2 1).buf.puts⟩ : Tx)] 0 0 = 1 := by simp [formL]
    have hw0 := hwait 0
    unfold Mgr.batch
    rw [if_neg (by simp [Mgr.new]), if_neg (by simp)]
    simp only [] at hw0
    have : Mgr.waiting { Mgr.new 5 0 with book := ⟨16, 1, [(1, 0)]⟩, all := [(1, aw d 2 1)], given := 1, queue := [1] } = [⟨1, (aw d 2 1).buf.puts⟩] := rfl
    rw [this, hf]; rfl
  refine mgr_batch h11 (hwok 0) (by simp [Mgr.new]) fun s' w13 h13 => ?_
  rw [hba] at h13 ⊢
  refine box2 h13 fun w15 k15 h15 => ?_
  obtain ⟨M4, hM4⟩ : ∃ M4 : Mgr, M4 = { Mgr.new 5 0 with book := ⟨16, 1, [(1, 0)]⟩, all := [(1, aw d 2 1)], given := 1, queue := [1], out := 1 } := ⟨_, rfl⟩
  have h16 : Sat (mgrA (some ⟨a, 0, none⟩) M4 * (batchA s' [⟨1, (aw d 2 1).buf.puts⟩] * (pt bn (.cells #[.int .i64 0, .slice s.a s.n s.c] 33) * (ownS 1 s (bytesV d) * whole w)))) w15 := h15.right.eq (by rw [hM4]; ac_rfl)
  have hr : M4.result 1 = (2, 1, 0) := by rw [hM4]; rfl
  refine mgr_result h16 fun w17 k17 => ?_
  rw [hr]
  refine bsplit_iff.2 ⟨fun e => (by cases e), fun _ => bsplit_iff.2 ⟨fun e => (by cases e), fun _ => bsplit_iff.2 ⟨fun e => (by cases e), fun _ => bsplit_iff.2 ⟨fun e => (by cases e), fun _ => ?_⟩⟩⟩⟩
  have hw4 : M4.waiting = [⟨1, (aw d 2 1).buf.puts⟩] := by rw [hM4]; rfl
  have hdn : (M4.done 0).2 = 0 ∧ (M4.done 0).1.result 1 = (3, 1, 0) ∧ (M4.done 0).1.last = 1 := by
    unfold Mgr.done
    rw [if_neg (by rw [hM4]; simp), hw4, hM4]
    exact ⟨rfl, rfl, rfl⟩
  refine mgr_done (B := 0) (k17.sat h16) (by rw [hM4]; exact ⟨by simp [Mgr.new], by simp [Mgr.new], by simp [Mgr.new]⟩) (by omega) (by rw [hM4]; exact hwok 1) (by rw [hM4]; simp) (fun t ht => by
    rw [hw4] at ht; simp at ht; subst ht; simp [puts_length, aw]) (by rw [hM4]; simp) (by rw [hM4]; simp [Mgr.new]) fun w19 h19 => ?_
  rw [hdn.1]
  refine bsplit_iff.2 ⟨fun e => (by cases e), fun _ => ?_⟩
  refine mgr_result h19 fun w21 k21 => ?_
  rw [hdn.2.1]
  refine bsplit_iff.2 ⟨fun _ => bsplit_iff.2 ⟨fun _ => ?_, fun e => (by cases e)⟩, fun e => (by cases e)⟩
  refine mgr_last (k21.sat h19) ?_
  rw [hdn.2.2]
  exact hk _ (Keep.whole (k21.sat h19).right.right.right.right)
end Go.Proofs.YtbolgpjcmchfoaaGreat
/- Nothing is no manager: the law 'TxnNothing', walked. -/
namespace Go.Proofs.YtbolgpjcmchfoaaGreat
open Go Go.Vc Go.Sl Go.Mo
theorem nopen {i : Int} {w : World} {K : Option Addr → World → Prop} (hk : K none w) : c_txn_Manager_open none i w K := txn_Manager_open_go (mgone_none hk)
theorem nbegin {w : World} {K : Int × Int → World → Prop} (hk : K (0, 6) w) : c_txn_Manager_Begin none w K := txn_Manager_Begin_go (mgone_none hk)
theorem nbatch {w : World} {K : (Int × SV) × Int → World → Prop} (hk : ∀ w', Keep w w' → K ((0, ⟨none, 0, 0⟩), 14) w') : c_txn_Manager_Batch none w K := by
  refine txn_Manager_Batch_go ?_
  unfold f_txn_Manager_Batch
  rw [withW_iff]
  refine mgone_none ?_
  have h1 : Sat (objA (some ⟨w.heap.size, 0, none⟩) [.int .i64 0, .slice none 0 0] * whole w) (w.alloc (.cells [.int .i64 0, .slice none 0 0].toArray 42)) := objA_new (sat_whole w)
  change Sat _ (w.alloc (.cells #[.int .i64 0, .slice none 0 0] 42)) at h1
  generalize w.alloc _ = w1 at h1 ⊢
  generalize w.heap.size = bx at h1 ⊢
  obtain ⟨hc, hf⟩ := objA_cells h1
  refine bsplit_iff.2 ⟨fun _ => ?_, fun e => (by cases e)⟩
  rw [add_mk]
  have h4 := objA_set (objA_set h1 0 (.int .i64 0)) 1 (.slice none 0 0)
  refine ⟨⟨⟨⟨_, hc 0⟩, hf 0⟩, ⟨_, hc 1⟩, hf 1⟩, rfl, gen_w h4 fun w4 h4 => ⟨(0, ⟨none, 0, 0⟩), ⟨(objA_cells h4).1 0, (objA_cells h4).1 1⟩, hk _ (Keep.whole h4.right)⟩⟩
theorem nresult {i : Int} {w : World} {K : Int × Int × Int → World → Prop} (hk : K (0, 0, 0) w) : c_txn_Manager_Result none i w K := txn_Manager_Result_go (mgone_none hk)
theorem nload {s : SV} {w : World} {K : Int → World → Prop} (hk : K 1 w) : c_txn_Manager_Load none s w K := txn_Manager_Load_go (mgone_none hk)
theorem ncommit {i : Int} {w : World} {K : Int → World → Prop} (hk : K 5 w) : c_txn_Manager_Commit none i w K := txn_Manager_Commit_go (nopen hk)
theorem nabort {i : Int} {w : World} {K : Int → World → Prop} (hk : K 5 w) : c_txn_Manager_Abort none i w K := txn_Manager_Abort_go (nopen hk)
theorem ndone {i : Int} {w : World} {K : Int → World → Prop} (hk : K 14 w) : c_txn_Manager_Done none i w K := txn_Manager_Done_go (mgone_none hk)
theorem nlast {w : World} {K : Int → World → Prop} (hk : K 0 w) : c_txn_Manager_Last none w K := txn_Manager_Last_go (mgone_none hk)
theorem ndump {w : World} {K : SV → World → Prop} (hk : K ⟨none, 0, 0⟩ w) : c_txn_Manager_Dump none w K := txn_Manager_Dump_go (mgone_none hk)
theorem nothing_c {h : Int} {w : World} {K : Bool → World → Prop} (hk : ∀ w', Keep w w' → K true w') : c_scarplaw23_TxnNothing h w K := by
  refine scarplaw23_TxnNothing_go (nbegin (nbatch fun w4 k4 => ?_))
  refine box2 (sat_whole w4) fun w6 k6 _ => ?_
  refine nresult (nload ?_)
  refine bsplit_iff.2 ⟨fun _ => bsplit_iff.2 ⟨fun _ => ncommit ?_, fun e => (by cases e)⟩, fun e => (by cases e)⟩
  refine bsplit_iff.2 ⟨fun _ => nabort ?_, fun e => (by cases e)⟩
  refine bsplit_iff.2 ⟨fun _ => bsplit_iff.2 ⟨fun _ => ndone ?_, fun e => (by cases e)⟩, fun e => (by cases e)⟩
  refine bsplit_iff.2 ⟨fun _ => bsplit_iff.2 ⟨fun _ => bsplit_iff.2 ⟨fun _ => bsplit_iff.2 ⟨fun _ => nlast ?_, fun e => (by cases e)⟩, fun e => (by cases e)⟩, fun e => (by cases e)⟩, fun e => (by cases e)⟩
  refine bsplit_iff.2 ⟨fun _ => ndump ?_, fun e => (by cases e)⟩
  refine bsplit_iff.2 ⟨fun _ => awake_c fun w' kw => hk _ ((k4.trans k6).trans kw), fun e => (by cases e)⟩
/-- What a call comes to, for a row's frame. -/
theorem row_of {f : FuncId} {av : Array Value} {w : World} (h : callsR Tryz.prog f av [.cell .bool] w fun b w' => b = true ∧ Keep w w') : Calls Tryz.prog f av w fun e w' => e = .returned (.bool true) ∧ RowKit.Below w.heap.size w w' := by
  refine Calls.mono h ?_
  rintro e w' ⟨hs, b, rfl, rfl, hk⟩
  exact ⟨rfl, hs.os, hs.tape, hs.output, hk.size, hk⟩
theorem nothing_row (a0 : Int) (w : World) : Calls Tryz.prog 6 #[.int .i64 a0] w fun e w' => e = .returned (.bool true) ∧ RowKit.Below w.heap.size w w' := row_of (nothing_c fun _ k => ⟨rfl, k⟩)
end Go.Proofs.YtbolgpjcmchfoaaGreat
/- The rules at transactions that write one block each and read none. -/
namespace Go.Proofs.YtbolgpjcmchfoaaGreat
open Go Go.Vc Go.Sl Go.Mo
theorem sortE_one (x : Ext) : sortE [x] = [x] := List.perm_singleton.1 (sortE_spec [x]).1
theorem joinM_one (x : Ext) : joinM [x] = [x] := by unfold joinM; rw [sortE_one]; rfl
theorem puts_one {B : Buf} {k : Int} {d : List UInt8} (h : B.data = [(k, d)]) : B.puts = [⟨k, d⟩] := by
  unfold Buf.puts
  rw [h]
  simp [sortI_one, lkp]
theorem bufSet_one {B : Buf} {k : Int} {d : List UInt8} (h : B.data = [(k, d)]) (hk : lbaOk k) : bufSet B = ⟨1, [⟨k, 1⟩]⟩ := by
  unfold bufSet
  rw [puts_one h]
  unfold lbaOk at hk
  have hm : may ⟨k, 1⟩ = true := by simp [may]; omega
  simp [XSet.add, hm, joinM_one]
theorem viewSet_none {V : View} (h : V.set.l = []) : viewSet V = ⟨64, []⟩ := by unfold viewSet XSet.add; rw [h]; simp
theorem against_none {t : Tx} {m : Int} : againstM t ⟨m, []⟩ = false := by
  unfold againstM
  rw [List.any_eq_false]
  intro x _
  simp [XSet.has]
theorem against_one {t : Tx} {m k j : Int} {d : List UInt8} (ht : t.puts = [⟨j, d⟩]) (hjk : j ≠ k) : againstM t ⟨m, [⟨k, 1⟩]⟩ = false := by
  unfold againstM
  rw [ht]
  simp only [List.any_cons, List.any_nil, Bool.or_false, XSet.has, meet]
  simp only [Bool.and_eq_false_iff, decide_eq_false_iff_not]
  omega
/-- Nothing is written; what waits writes other blocks: nothing conflicts. -/
theorem valid_apart {M : XMap} (h : M.vers = []) (q : List Tx) (a m n k : Int) (hq : ∀ t ∈ q, ∃ j d, t.puts = [⟨j, d⟩] ∧ j ≠ k) : validM M q a ⟨m, []⟩ ⟨n, [⟨k, 1⟩]⟩ = 0 := by
  unfold validM
  rw [hitS_nil h, hitS_nil h]
  have h1 : (q.any fun t => againstM t ⟨m, []⟩) = false := by rw [List.any_eq_false]; intro t _; simp [against_none]
  have h2 : (q.any fun t => againstM t ⟨n, [⟨k, 1⟩]⟩) = false := by
    rw [List.any_eq_false]
    intro t ht
    obtain ⟨j, d, hp, hne⟩ := hq t ht
    simp [against_one hp hne]
  rw [h1, h2]
  simp
/-- After i transactions, of which each wrote one block of its own. -/
structure Inv1 (B : Int) (i : Nat) (M : Mgr) : Prop where
  m : M.m = ⟨B, [], 0⟩
  read : M.read = false
  out : M.out = 0
  most : M.book.most = 16
  last : M.book.last = i
  keys : ∀ p ∈ M.book.times, 1 ≤ p.1 ∧ p.1 ≤ i
  len : M.book.times.length ≤ i
  all : ∀ q ∈ M.all, 1 ≤ q.1 ∧ q.1 ≤ i
  qlen : M.queue.length ≤ i
  q : ∀ h ∈ M.queue, ∃ T, lkp M.all h = some T ∧ ∃ j d, T.buf.data = [(j, d)] ∧ d.length = 40 ∧ 0 ≤ j ∧ j < i
theorem inv1_new (B last : Int) : Inv1 B 0 (Mgr.new B last) := ⟨rfl, rfl, rfl, rfl, rfl, by simp [Mgr.new], by simp [Mgr.new], by simp [Mgr.new], by simp [Mgr.new], by simp [Mgr.new]⟩
def one1 (M : Mgr) (i : Nat) (d : List UInt8) (st tm code : Int) : Trn := ⟨st, tm, code, M.last, ⟨M.m.blocks, 16, [((i : Int), d)]⟩, ⟨M.last, ⟨64, []⟩, []⟩⟩
theorem inv1_begin {B : Int} {i : Nat} {M : Mgr} (I : Inv1 B i M) (hi : i < 16) (hl : 0 ≤ M.last ∧ M.last ≤ 1099511627776) : M.begin = ({ M with book := ⟨16, i + 1, put M.book.times (i + 1) M.last⟩, all := put M.all (i + 1) (freshT M) }, ((i + 1 : Int), 0)) := by
  have ho : M.book.open M.last = (⟨16, i + 1, put M.book.times (i + 1) M.last⟩, ((i + 1 : Int), 0)) := by
    unfold Book.open
    have := I.len
    rw [if_neg (by omega), if_neg (by rw [I.most]; omega)]
    rw [I.last, I.most]
  unfold Mgr.begin
  rw [ho]
  simp
theorem hpp : ∀ (l : List (Int × Trn)) (k : Int) (a b : Trn), put (put l k a) k b = put l k b := by
  intro l k a b
  induction l with
  | nil => simp [put]
  | cons p r ih =>
    obtain ⟨j, x⟩ := p
    simp only [put]
    by_cases e : k = j
    · simp [e, put]
    · simp [e, put, ih]
theorem inv1_write {B : Int} {i : Nat} {M : Mgr} {d : List UInt8} (I : Inv1 B i M) (hiB : (i : Int) < B) (hd : d.length = 40) :
    Mgr.write { M with book := ⟨16, i + 1, put M.book.times (i + 1) M.last⟩, all := put M.all (i + 1) (freshT M) } (i + 1) [⟨i, d⟩] = ({ M with book := ⟨16, i + 1, put M.book.times (i + 1) M.last⟩, all := put M.all (i + 1) (one1 M i d 1 0 0) }, 0) := by
  have hop : Mgr.opn { M with book := ⟨16, i + 1, put M.book.times (i + 1) M.last⟩, all := put M.all (i + 1) (freshT M) } (i + 1) = some (freshT M) := by
    unfold Mgr.opn
    simp only [lkp_put_self]
    rfl
  have hw : (freshT M).buf.write [⟨i, d⟩] = (⟨M.m.blocks, 16, [((i : Int), d)]⟩, 0) := by
    have hb : M.m.blocks = B := by rw [I.m]
    have h1 : (outOf M.m.blocks ⟨i, d⟩) = false := by simp [outOf, hb]; omega
    simp [Buf.write, freshT, h1, badLen, hd, twiceM, newOnes, putsIn, put, lkp]
  unfold Mgr.write
  rw [hop]
  simp only [hw, hpp]
  rfl
/-- Behind a write: what is to be handed in. -/
abbrev mid1 (M : Mgr) (i : Nat) (d : List UInt8) : Mgr := { M with book := ⟨16, i + 1, put M.book.times (i + 1) M.last⟩, all := put M.all (i + 1) (one1 M i d 1 0 0) }
theorem mid1_lkp {B : Int} {i : Nat} {M : Mgr} {_d : List UInt8} (I : Inv1 B i M) (T : Trn) : ∀ h ∈ M.queue, h ≠ (i + 1 : Int) ∧ lkp (put M.all (i + 1) T) h = lkp M.all h := by
  intro h hh
  obtain ⟨T', hT, _⟩ := I.q h hh
  have := (I.all _ (lkp_mem hT)).2
  simp only at this
  refine ⟨by omega, ?_⟩
  rw [lkp_put, if_neg (by omega)]
theorem mid1_wait {B : Int} {i : Nat} {M : Mgr} {d : List UInt8} (I : Inv1 B i M) : ∀ t ∈ (mid1 M i d).waiting, ∃ j d, t.puts = [⟨j, d⟩] ∧ j ≠ (i : Int) := by
  intro t ht
  unfold Mgr.waiting at ht
  obtain ⟨h, hh, e⟩ := List.mem_filterMap.1 ht
  obtain ⟨_, h2⟩ := mid1_lkp (_d := d) I (one1 M i d 1 0 0) h hh
  obtain ⟨T, hT, j, d', hd, _, _, hj⟩ := I.q h hh
  simp only [h2, hT, Option.map_some, Option.some.injEq] at e
  rw [← e]
  exact ⟨j, d', puts_one hd, by omega⟩
theorem mid1_may {B : Int} {i : Nat} {M : Mgr} {d : List UInt8} (I : Inv1 B i M) (hi : lbaOk i) : (mid1 M i d).may (one1 M i d 1 0 0) = if 1099511627776 ≤ M.given then 11 else 0 := by
  have hv : validM (mid1 M i d).m (mid1 M i d).waiting (one1 M i d 1 0 0).at_ (viewSet (one1 M i d 1 0 0).view) (bufSet (one1 M i d 1 0 0).buf) = 0 := by
    rw [viewSet_none rfl, bufSet_one (k := i) (d := d) rfl hi]
    exact valid_apart (by show M.m.vers = []; rw [I.m]) _ _ _ _ _ (mid1_wait I)
  unfold Mgr.may
  rw [if_neg (by show ¬ M.read = true; rw [I.read]; simp), if_neg (by simpa using hv)]
theorem mid1_opn {i : Nat} {M : Mgr} {d : List UInt8} : (mid1 M i d).opn (i + 1) = some (one1 M i d 1 0 0) := by
  unfold Mgr.opn
  simp only [lkp_put_self]
  rfl
theorem inv1_commit {B : Int} {i : Nat} {M : Mgr} {d : List UInt8} (I : Inv1 B i M) (hi : lbaOk i) : (mid1 M i d).commit (i + 1) =
    if 1099511627776 ≤ M.given then ((mid1 M i d).end_ (i + 1) 4 11, 11) else ({ mid1 M i d with given := M.given + 1, all := put (mid1 M i d).all (i + 1) (one1 M i d 2 (M.given + 1) 0), queue := M.queue ++ [(i + 1 : Int)] }, 0) := by
  unfold Mgr.commit
  rw [mid1_opn]
  simp only []
  rw [if_neg (by simp [one1]), mid1_may I hi]
  by_cases hg : 1099511627776 ≤ M.given
  · simp [hg]
  · simp only [hg, if_false, ne_eq, not_true_eq_false]
    rfl
theorem keys_put1 {α : Type} {l : List (Int × α)} {i : Nat} (h : ∀ p ∈ l, 1 ≤ p.1 ∧ p.1 ≤ (i : Int)) (v : α) : ∀ p ∈ put l (i + 1) v, 1 ≤ p.1 ∧ p.1 ≤ ((i + 1 : Nat) : Int) := by
  intro p hp
  rcases mem_put hp with e | e
  · subst e; simp only; omega
  · have := h p e; omega
theorem inv1_next {B : Int} {i : Nat} {M : Mgr} {d : List UInt8} (I : Inv1 B i M) (hi : lbaOk i) (hd : d.length = 40) : Inv1 B (i + 1) ((mid1 M i d).commit (i + 1)).1 := by
  rw [inv1_commit I hi]
  have hlen := I.len
  have hq := I.qlen
  by_cases hg : 1099511627776 ≤ M.given
  · rw [if_pos hg]
    have he : (mid1 M i d).end_ (i + 1) 4 11 = { mid1 M i d with all := put (mid1 M i d).all (i + 1) (one1 M i d 4 0 11), book := ((mid1 M i d).book.close (i + 1)).1 } := by
      unfold Mgr.end_
      simp only [lkp_put_self]
      rfl
    have hcl : ((mid1 M i d).book.close (i + 1)).1 = ⟨16, i + 1, del (put M.book.times (i + 1) M.last) (i + 1)⟩ := by
      unfold Book.close
      simp only [lkp_put_self]
    rw [he, hcl]
    have hdel : (del (put M.book.times (i + 1 : Int) M.last) (i + 1)).Sublist (put M.book.times (i + 1) M.last) := by
      generalize put M.book.times (i + 1 : Int) M.last = l
      induction l with
      | nil => exact List.Sublist.refl _
      | cons p r ih =>
        simp only [del]; split
        · exact List.sublist_cons_self _ _
        · exact ih.cons_cons _
    refine ⟨I.m, I.read, I.out, rfl, by simp, fun p hp => ?_, ?_, ?_, by simp only; omega, fun h hh => ?_⟩
    · exact keys_put1 I.keys M.last p (hdel.subset hp)
    · have := hdel.length_le
      have := put_length_le M.book.times (i + 1 : Int) M.last
      simp only; omega
    · simp only [hpp]; exact keys_put1 I.all _
    · obtain ⟨_, h2⟩ := mid1_lkp (_d := d) I (one1 M i d 4 0 11) h hh
      obtain ⟨T, hT, j, d', a, b, c, e⟩ := I.q h hh
      exact ⟨T, by simp only [hpp]; rw [h2]; exact hT, j, d', a, b, c, by omega⟩
  · rw [if_neg hg]
    refine ⟨I.m, I.read, I.out, rfl, by simp, fun p hp => ?_, ?_, ?_, by simp; omega, fun h hh => ?_⟩
    · exact keys_put1 I.keys M.last p hp
    · have := put_length_le M.book.times (i + 1 : Int) M.last
      simp only; omega
    · simp only [hpp]; exact keys_put1 I.all _
    · rcases List.mem_append.1 hh with hh | hh
      · obtain ⟨_, h2⟩ := mid1_lkp (_d := d) I (one1 M i d 2 (M.given + 1) 0) h hh
        obtain ⟨T, hT, j, d', a, b, c, e⟩ := I.q h hh
        exact ⟨T, by simp only [hpp]; rw [h2]; exact hT, j, d', a, b, c, by omega⟩
      · simp only [List.mem_singleton] at hh
        subst hh
        exact ⟨one1 M i d 2 (M.given + 1) 0, lkp_put_self _ _ _, i, d, rfl, hd, by omega, by omega⟩
end Go.Proofs.YtbolgpjcmchfoaaGreat
/- The law 'TxnTimes', walked. -/
namespace Go.Proofs.YtbolgpjcmchfoaaGreat
open Go Go.Vc Go.Sl Go.Mo
theorem inv1_book {B : Int} {i : Nat} {M : Mgr} (I : Inv1 B i M) (hi : i ≤ 1000) : BookOk M.book := ⟨fun p hp => by have := I.keys p hp; unfold i64ok; omega, by have := I.len; omega⟩
theorem mid1_waitok {B : Int} {i : Nat} {M : Mgr} {d : List UInt8} (I : Inv1 B i M) (hi : i ≤ 1000) : WaitOk (mid1 M i d) := by
  refine ⟨by have := I.qlen; show M.queue.length ≤ 2 ^ 20; omega, fun h hh => ?_⟩
  obtain ⟨_, h2⟩ := mid1_lkp (_d := d) I (one1 M i d 1 0 0) h hh
  obtain ⟨T, hT, j, d', hd, hl, h0, hj⟩ := I.q h hh
  refine ⟨T, h2.trans hT, ⟨fun q hq => ?_, by rw [hd]; simp⟩, by rw [hd]; simp⟩
  rw [hd] at hq
  simp only [List.mem_singleton] at hq
  subst hq
  exact ⟨by unfold i64ok; simp only; omega, by simp only [hl]; omega⟩
theorem mid1_trn {i : Nat} {M : Mgr} {d : List UInt8} (hi : i ≤ 1000) (hd : d.length = 40) : TrnOk (one1 M i d 1 0 0) :=
  ⟨⟨by simp [one1, hd, i64ok]; omega, by simp [one1]⟩, by simp [one1, lbaOk]; omega, by simp [one1], emptySet_ok, by simp [one1]⟩
/-- One transaction that writes one block of its own: begun, written, handed in. -/
theorem round1 {a : Nat} {B : Int} {i : Nat} {M : Mgr} {d : List UInt8} {R : HP} {w : World} {K : Int → World → Prop} (I : Inv1 B i M) (hi : i ≤ 1000) (hd : d.length = 40) (hB : 1 ≤ B ∧ B ≤ 1048576) (hg : 0 ≤ M.given ∧ M.given ≤ 2 ^ 41)
    (h : Sat (mgrA (some ⟨a, 0, none⟩) (mid1 M i d) * R) w) (hk : ∀ w', Sat (mgrA (some ⟨a, 0, none⟩) ((mid1 M i d).commit (i + 1)).1 * R) w' → K ((mid1 M i d).commit (i + 1)).2 w') : c_txn_Manager_Commit (some ⟨a, 0, none⟩) ((i : Int) + 1) w K := by
  refine mgr_commit (B := 0) h ⟨by show 1 ≤ M.m.blocks ∧ M.m.blocks ≤ 1048576; rw [I.m]; exact hB, by show M.m.vers.length ≤ _; rw [I.m]; simp, by show ∀ q ∈ M.m.vers, _; rw [I.m]; simp⟩ (by omega) (mid1_waitok I hi) (fun T hT => by
    rw [mid1_opn] at hT; cases hT
    exact mid1_trn hi hd) hg hk
theorem times_c {last n : Int} {w : World} {K : Bool → World → Prop} (hk : ∀ w', Keep w w' → K true w') : c_scarplaw23_TxnTimes last n w K := by
  refine scarplaw23_TxnTimes_go ?_
  unfold f_scarplaw23_TxnTimes
  refine bsplit_decide.2 ⟨fun _ => awake_c hk, fun h1 => bsplit_decide.2 ⟨fun _ => awake_c hk, fun h2 => bsplit_decide.2 ⟨fun _ => awake_c hk, fun h3 => bsplit_decide.2 ⟨fun _ => awake_c hk, fun h4 => ?_⟩⟩⟩⟩
  refine mgr_new (n := 20) (last := last) (sat_whole w) (by omega) (by omega) fun a w2 h => ?_
  refine bsplit_iff.2 ⟨fun e => (by cases e), fun _ => bsplit_iff.2 ⟨fun e => (by cases e), fun _ => ?_⟩⟩
  refine loop_i (fun (x : Bool × Int) w' => ∃ (i : Nat) (M : Mgr), x.2 = i ∧ (i : Int) ≤ n ∧ Inv1 20 i M ∧ M.last = last ∧ M.given = (if (i : Int) ≤ 1099511627776 - last then last + i else 1099511627776) ∧ Sat (mgrA (some ⟨a, 0, none⟩) M * whole w) w') (fun x _ => (n - x.2).toNat)
    ⟨0, Mgr.new 20 last, rfl, by omega, inv1_new _ _, rfl, by rw [if_pos (by simp; omega)]; simp [Mgr.new], h⟩ ?_
  rintro ⟨y, x⟩ w12 ⟨i, M, hx, hi, I, hML, hMg, hw⟩
  simp only at hx; subst hx
  dsimp only
  refine bsplit_decide.2 ⟨fun hlt => ?_, fun hge => awake_c fun w' kw => hk _ ((Keep.whole hw.right).trans kw)⟩
  have hi16 : i < 16 := by omega
  have hm : M.m.blocks = 20 := by rw [I.m]
  have hgr : 0 ≤ M.given ∧ M.given ≤ 1099511627776 := by rw [hMg]; split <;> omega
  refine mgr_begin hw (by rw [hm]; omega) (inv1_book I (by omega)) (by rw [I.last]; omega) fun w15 h15 => ?_
  have hb := inv1_begin I hi16 (by omega)
  rw [hb] at h15 ⊢
  refine bsplit_iff.2 ⟨fun e => (by simp at e), fun _ => ?_⟩
  refine data_c h15 fun s w17 hs h17 => ?_
  rw [withW_iff]
  have h18 := h17.alloc (.cells #[.int .i64 (i : Int), .slice s.a s.n s.c] 33)
  generalize hd : blockB 40 (i : Int) = d at h18
  have hdl : d.length = 40 := by rw [← hd, blockB_length]
  generalize w17.heap.size = bn at h18 ⊢
  have hwr := inv1_write (d := d) I (by omega) hdl
  refine mgr_write (l := [⟨i, d⟩]) (h18.eq (by ac_rfl : _ = mgrA (some ⟨a, 0, none⟩) { M with book := ⟨16, i + 1, put M.book.times (i + 1) M.last⟩, all := put M.all (i + 1) (freshT M) } * (pt bn (.cells #[.int .i64 (i : Int), .slice s.a s.n s.c] 33) * (ownS 1 s (bytesV d) * whole w)))) (fun w' hw' => put1_on hw' rfl) (by simp) (fun T hT => by
    unfold Mgr.opn at hT
    simp only [lkp_put_self] at hT
    rw [if_pos (show (freshT M).state = 1 from rfl)] at hT
    cases hT; simp [freshT]) fun w20 h20 => ?_
  rw [hwr] at h20 ⊢
  refine bsplit_iff.2 ⟨fun e => (by simp at e), fun _ => ?_⟩
  refine round1 I (by omega) hdl (by omega) (by omega) h20 fun w22 h22 => ?_
  refine mgr_result h22 fun w24 k24 => ?_
  have hn := inv1_next (d := d) I (by unfold lbaOk; omega) hdl
  have hc := inv1_commit (d := d) I (by unfold lbaOk; omega)
  have h25 := k24.sat h22
  have e1 : IntKind.i64.wrap ((i : Int) + 1) = ((i + 1 : Nat) : Int) := by rw [wrap_of (by omega) (by omega)]; omega
  rw [wrap_of (x := 1099511627776 - last) (by omega) (by omega)]
  have nxt : ((mid1 M i d).commit (i + 1)).1.last = last → ((mid1 M i d).commit (i + 1)).1.given = (if ((i + 1 : Nat) : Int) ≤ 1099511627776 - last then last + ((i + 1 : Nat) : Int) else 1099511627776) →
      (∃ (i_1 : Nat) (M : Mgr), IntKind.i64.wrap ((i : Int) + 1) = i_1 ∧ (i_1 : Int) ≤ n ∧ Inv1 20 i_1 M ∧ M.last = last ∧ M.given = (if (i_1 : Int) ≤ 1099511627776 - last then last + i_1 else 1099511627776) ∧ Sat (mgrA (some ⟨a, 0, none⟩) M * whole w) w24) ∧ (n - IntKind.i64.wrap ((i : Int) + 1)).toNat < (n - (i : Int)).toNat := fun a1 a2 =>
    ⟨⟨i + 1, ((mid1 M i d).commit (i + 1)).1, e1, by omega, hn, a1, a2, (h25.eq (by ac_rfl : _ = (pt bn (.cells #[.int .i64 (i : Int), .slice s.a s.n s.c] 33) * ownS 1 s (bytesV d)) * (mgrA (some ⟨a, 0, none⟩) ((mid1 M i d).commit (i + 1)).1 * whole w))).right⟩, by rw [e1]; omega⟩
  refine bsplit_decide.2 ⟨fun hA => ?_, fun hA => ?_⟩
  · have hg : ¬ 1099511627776 ≤ M.given := by rw [hMg, if_pos (by omega)]; omega
    rw [if_neg hg] at hc
    have hres : ((mid1 M i d).commit (i + 1)).1.result (i + 1) = (2, M.given + 1, 0) := by
      rw [hc]; unfold Mgr.result; simp only [lkp_put_self]; rfl
    rw [hres]
    have h0 : ((mid1 M i d).commit (i + 1)).2 = 0 := by rw [hc]
    rw [h0]
    refine bsplit_iff.2 ⟨fun e => (by simp at e), fun _ => bsplit_iff.2 ⟨fun e => (by simp at e), fun _ => ?_⟩⟩
    rw [wrap_of (x := last + i) (by omega) (by omega), wrap_of (by omega) (by omega)]
    refine bsplit_iff.2 ⟨fun e => ?_, fun _ => nxt (by rw [hc]; exact hML) (by rw [hc]; show M.given + 1 = _; rw [hMg, if_pos (by omega), if_pos (by omega)]; omega)⟩
    simp only [Bool.not_eq_true', decide_eq_false_iff_not] at e
    rw [hMg, if_pos (by omega)] at e
    exact absurd rfl e
  · have hg : 1099511627776 ≤ M.given := by rw [hMg]; split <;> omega
    rw [if_pos hg] at hc
    have hres : ((mid1 M i d).commit (i + 1)).1.result (i + 1) = (4, 0, 11) := by
      rw [hc]; unfold Mgr.result Mgr.end_; simp only [lkp_put_self]; rfl
    rw [hres]
    have h0 : ((mid1 M i d).commit (i + 1)).2 = 11 := by rw [hc]
    rw [h0]
    refine bsplit_iff.2 ⟨fun e => (by simp at e), fun _ => bsplit_iff.2 ⟨fun e => (by simp at e), fun _ => bsplit_iff.2 ⟨fun e => (by simp at e), fun _ => bsplit_iff.2 ⟨fun e => (by simp at e), fun _ => ?_⟩⟩⟩⟩
    have hend : ((mid1 M i d).end_ (i + 1) 4 11).last = M.last ∧ ((mid1 M i d).end_ (i + 1) 4 11).given = M.given := by unfold Mgr.end_; simp only [lkp_put_self, and_self]
    exact nxt (by rw [hc]; exact hend.1.trans hML) (by rw [hc]; refine hend.2.trans ?_; rw [hMg]; split <;> split <;> omega)
theorem times_row (a0 a1 : Int) (w : World) : Calls Tryz.prog 3 #[.int .i64 a0, .int .i64 a1] w fun e w' => e = .returned (.bool true) ∧ RowKit.Below w.heap.size w w' := row_of (times_c fun _ k => ⟨rfl, k⟩)
end Go.Proofs.YtbolgpjcmchfoaaGreat
