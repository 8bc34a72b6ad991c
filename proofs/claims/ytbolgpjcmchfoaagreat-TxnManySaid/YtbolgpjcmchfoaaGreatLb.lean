/- Nothing is no manager: the law 'TxnNothing', walked. -/
import Derived.Test.YtbolgpjcmchfoaaGreatLa
import Derived.Test.YtbolgpjcmchfoaaGreatF2
namespace Go.Proofs.YtbolgpjcmchfoaaGreat
open Go Go.Vc Go.Sl Go.Mo
theorem nopen {i : Int} {w : World} {K : Option Addr → World → Prop} (hk : K none w) : c_txn_Manager_open none i w K := txn_Manager_open_go (mgone_none hk)
theorem nbegin {w : World} {K : Int × Int → World → Prop} (hk : K (0, 6) w) : c_txn_Manager_Begin none w K := txn_Manager_Begin_go (mgone_none hk)
theorem nbatch {w : World} {K : (Int × SV) × Int → World → Prop} (hk : ∀ w', Keep w w' → K ((0, ⟨none, 0, 0⟩), 14) w') : c_txn_Manager_Batch none w K := by
  refine txn_Manager_Batch_go ?_
  unfold f_txn_Manager_Batch
  rw [withW_iff]
  refine mgone_none ?_
  have h1 : Sat (objA (some ⟨w.heap.size, 0, none⟩) [.int .i64 0, .slice none 0 0] * whole w) (w.alloc (.cells [.int .i64 0, .slice none 0 0].toArray 42)) := objA_new (sat_whole w)
  change Sat _ (w.alloc (.cells #[.int .i64 0, .slice none 0 0] 42)) at h1
  generalize w.alloc _ = w1 at h1 ⊢
  generalize w.heap.size = bx at h1 ⊢
  obtain ⟨hc, hf⟩ := objA_cells h1
  refine bsplit_iff.2 ⟨fun _ => ?_, fun e => (by cases e)⟩
  rw [add_mk]
  have h4 := objA_set (objA_set h1 0 (.int .i64 0)) 1 (.slice none 0 0)
  refine ⟨⟨⟨⟨_, hc 0⟩, hf 0⟩, ⟨_, hc 1⟩, hf 1⟩, rfl, gen_w h4 fun w4 h4 => ⟨(0, ⟨none, 0, 0⟩), ⟨(objA_cells h4).1 0, (objA_cells h4).1 1⟩, hk _ (Keep.whole h4.right)⟩⟩
theorem nresult {i : Int} {w : World} {K : Int × Int × Int → World → Prop} (hk : K (0, 0, 0) w) : c_txn_Manager_Result none i w K := txn_Manager_Result_go (mgone_none hk)
theorem nload {s : SV} {w : World} {K : Int → World → Prop} (hk : K 1 w) : c_txn_Manager_Load none s w K := txn_Manager_Load_go (mgone_none hk)
theorem ncommit {i : Int} {w : World} {K : Int → World → Prop} (hk : K 5 w) : c_txn_Manager_Commit none i w K := txn_Manager_Commit_go (nopen hk)
theorem nabort {i : Int} {w : World} {K : Int → World → Prop} (hk : K 5 w) : c_txn_Manager_Abort none i w K := txn_Manager_Abort_go (nopen hk)
theorem ndone {i : Int} {w : World} {K : Int → World → Prop} (hk : K 14 w) : c_txn_Manager_Done none i w K := txn_Manager_Done_go (mgone_none hk)
theorem nlast {w : World} {K : Int → World → Prop} (hk : K 0 w) : c_txn_Manager_Last none w K := txn_Manager_Last_go (mgone_none hk)
theorem ndump {w : World} {K : SV → World → Prop} (hk : K ⟨none, 0, 0⟩ w) : c_txn_Manager_Dump none w K := txn_Manager_Dump_go (mgone_none hk)
theorem nothing_c {h : Int} {w : World} {K : Bool → World → Prop} (hk : ∀ w', Keep w w' → K true w') : c_scarplaw23_TxnNothing h w K := by
  refine scarplaw23_TxnNothing_go (nbegin (nbatch fun w4 k4 => ?_))
  refine box2 (sat_whole w4) fun w6 k6 _ => ?_
  refine nresult (nload ?_)
  refine bsplit_iff.2 ⟨fun _ => bsplit_iff.2 ⟨fun _ => ncommit ?_, fun e => (by cases e)⟩, fun e => (by cases e)⟩
  refine bsplit_iff.2 ⟨fun _ => nabort ?_, fun e => (by cases e)⟩
  refine bsplit_iff.2 ⟨fun _ => bsplit_iff.2 ⟨fun _ => ndone ?_, fun e => (by cases e)⟩, fun e => (by cases e)⟩
  refine bsplit_iff.2 ⟨fun _ => bsplit_iff.2 ⟨fun _ => bsplit_iff.2 ⟨fun _ => bsplit_iff.2 ⟨fun _ => nlast ?_, fun e => (by cases e)⟩, fun e => (by cases e)⟩, fun e => (by cases e)⟩, fun e => (by cases e)⟩
  refine bsplit_iff.2 ⟨fun _ => ndump ?_, fun e => (by cases e)⟩
  refine bsplit_iff.2 ⟨fun _ => awake_c fun w' kw => hk _ ((k4.trans k6).trans kw), fun e => (by cases e)⟩
/-- What a call comes to, for a row's frame. -/
theorem row_of {f : FuncId} {av : Array Value} {w : World} (h : callsR Tryz.prog f av [.cell .bool] w fun b w' => b = true ∧ Keep w w') : Calls Tryz.prog f av w fun e w' => e = .returned (.bool true) ∧ RowKit.Below w.heap.size w w' := by
  refine Calls.mono h ?_
  rintro e w' ⟨hs, b, rfl, rfl, hk⟩
  exact ⟨rfl, hs.os, hs.tape, hs.output, hk.size, hk⟩
theorem nothing_row (a0 : Int) (w : World) : Calls Tryz.prog 6 #[.int .i64 a0] w fun e w' => e = .returned (.bool true) ∧ RowKit.Below w.heap.size w w' := row_of (nothing_c fun _ k => ⟨rfl, k⟩)
end Go.Proofs.YtbolgpjcmchfoaaGreat
