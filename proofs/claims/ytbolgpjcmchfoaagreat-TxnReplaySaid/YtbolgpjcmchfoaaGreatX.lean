/- Contracts: a transaction's history. -/
import Derived.Test.YtbolgpjcmchfoaaGreatD
import Derived.Test.YtbolgpjcmchfoaaGreatP
namespace Go.Proofs.YtbolgpjcmchfoaaGreat
open Go Go.Vc Go.Sl Go.Mo
theorem flat3_get {α : Type} (f g k : α → Value) : ∀ (xs : List α) (i : Nat) (hi : i < xs.length), (xs.flatMap fun x => [f x, g x, k x])[i * 3]? = some (f xs[i]) ∧ (xs.flatMap fun x => [f x, g x, k x])[i * 3 + 1]? = some (g xs[i]) ∧ (xs.flatMap fun x => [f x, g x, k x])[i * 3 + 2]? = some (k xs[i])
  | [], i, hi => by simp at hi
  | x :: r, 0, hi => by simp
  | x :: r, i + 1, hi => by
    have := flat3_get f g k r i (by simpa using hi)
    simp only [List.flatMap_cons]
    rw [show (i + 1) * 3 = i * 3 + 3 from by omega]
    exact this
/-- A variable of three cells that is laid and written at once. -/
theorem box3 {z1 z2 z3 v1 v2 v3 : Value} {t : Nat} {R : HP} {w : World} {K : World → Prop} (h : Sat R w) (hk : ∀ w', Sat (objA (some ⟨w.heap.size, 0, none⟩) [v1, v2, v3] * R) w' → K w') :
    withW (w.alloc (.cells #[z1, z2, z3] t)) fun w7 => (((∃ u, w7.cell? (⟨w.heap.size, 0, none⟩ : Addr) = some u) ∧ w7.frozen? (⟨w.heap.size, 0, none⟩ : Addr) = false) ∧ ((∃ u, w7.cell? ((⟨w.heap.size, 0, none⟩ : Addr).add 1) = some u) ∧ w7.frozen? ((⟨w.heap.size, 0, none⟩ : Addr).add 1) = false) ∧ ((∃ u, w7.cell? ((⟨w.heap.size, 0, none⟩ : Addr).add 2) = some u) ∧ w7.frozen? ((⟨w.heap.size, 0, none⟩ : Addr).add 2) = false)) ∧ (true = true) ∧
      withW (((w7.setCell (⟨w.heap.size, 0, none⟩ : Addr) v1).setCell ((⟨w.heap.size, 0, none⟩ : Addr).add 1) v2).setCell ((⟨w.heap.size, 0, none⟩ : Addr).add 2) v3) K := by
  have h1 : Sat (objA (some ⟨w.heap.size, 0, none⟩) [z1, z2, z3] * R) (w.alloc (.cells [z1, z2, z3].toArray t)) := objA_new h
  obtain ⟨hc, hf⟩ := objA_cells h1
  rw [withW_iff, add_mk, add_mk, Nat.zero_add]
  refine ⟨⟨⟨⟨z1, hc 0⟩, hf 0⟩, ⟨⟨z2, hc 1⟩, hf 1⟩, ⟨z3, hc 2⟩, hf 2⟩, rfl, ?_⟩
  exact hk _ (objA_set (objA_set (objA_set h1 0 v1) 1 v2) 2 v3)
theorem view_reads {p m b : Option Addr} {V : View} {R : HP} {w : World} {K : SV → World → Prop} (h : Sat (viewA p m b V * R) w) (hl : V.reads.length ≤ 2 ^ 30) (hd : ∀ x ∈ V.reads, x.data.length ≤ 2 ^ 40) (hk : ∀ s w', Sat (readsA s V.reads * whole w) w' → K s w') : c_rset_View_Reads p w K := by
  obtain ⟨a, rfl⟩ := view_ptr h
  obtain ⟨sp, rs, h1⟩ := viewA_open h
  refine rset_View_Reads_go ?_
  unfold f_rset_View_Reads
  refine bsplit_iff.2 ⟨fun e => (by cases e), fun _ => ?_⟩
  rw [onP_some, add_mk]
  refine ⟨rs, (objA_cells h1).1 4, ?_⟩
  have h2 : Sat (readsA rs V.reads * (objA (some ⟨a, 0, none⟩) [.pointer m, .pointer b, .int .i64 V.at_, .pointer sp, slv rs] * (setA sp V.set * R))) w := h1.eq (by ac_rfl)
  have hrn := readsA_n h2
  obtain ⟨xs, hxs, h3⟩ := readsA_open h2
  have hxl : xs.length = V.reads.length := by rw [← hxs]; simp
  have hfl := flat3_length (fun x : SV × Rd => .int .i64 x.2.lba) (fun x => slv x.1) (fun x => .bool x.2.own) xs
  rw [hrn]
  generalize hrd : V.reads = rd at hxs hxl hd hk hl hrn
  refine loop_i (fun (x : SV × Int) w' => ∃ i : Nat, x.2 = i ∧ i ≤ rd.length ∧ Sat (readsA x.1 (rd.take i) * whole w) w') (fun x _ => rd.length - x.2.toNat) ⟨0, rfl, by omega, readsA_nil (sat_whole w)⟩ ?_
  rintro ⟨out, x⟩ w4 ⟨i, hx, hi, hw⟩
  simp only at hx hw; subst hx
  dsimp only
  refine bsplit_decide.2 ⟨fun hlt => ?_, fun hge => ?_⟩
  · have hi' : i < xs.length := by omega
    have hir : i < rd.length := by omega
    have hxi : xs[i].2 = rd[i] := by
      have := List.getElem_of_eq hxs (show i < (xs.map Prod.snd).length by simpa using hi')
      simpa using this
    obtain ⟨g0, g1, g2⟩ := flat3_get (fun x : SV × Rd => .int .i64 x.2.lba) (fun x => slv x.1) (fun x => .bool x.2.own) xs i hi'
    obtain ⟨bk, hbk, hck⟩ := ownS_cell h3 (i := i * 3) (by omega)
    have kw : Keep w w4 := Keep.whole hw.right
    have cc : ∀ j (hj : j < (xs.flatMap fun x => [.int .i64 x.2.lba, slv x.1, .bool x.2.own]).length) v, (xs.flatMap fun x : SV × Rd => [Value.int .i64 x.2.lba, slv x.1, .bool x.2.own])[j]? = some v → w4.cell? ⟨bk, j, none⟩ = some v := fun j hj v hv => by
      have := hck j hj
      rw [← List.getElem?_eq_getElem, hv] at this
      exact keep_cell kw this
    have hby : Sat (byteRow xs[i].1 xs[i].2.data) w := all_mem (A := fun x : SV × Rd => byteRow x.1 x.2.data) (List.getElem_mem hi') h3.right.left
    have hon := byteRow_on (kw.sat hby)
    have hdl : xs[i].2.data.length ≤ 2 ^ 40 := by rw [hxi]; exact hd _ (List.getElem_mem hir)
    refine ⟨by omega, by omega, onP_i hbk ⟨(xs[i].2.lba, xs[i].1, xs[i].2.own), ⟨?_, ?_, ?_⟩, ?_⟩⟩
    · rw [add_mk, Nat.zero_add, Int.toNat_natCast]; exact cc _ (by omega) _ g0
    · rw [add_mk, add_mk, Nat.zero_add, Int.toNat_natCast]; exact cc _ (by omega) _ g1
    · rw [add_mk, add_mk, Nat.zero_add, Int.toNat_natCast]; exact cc _ (by omega) _ g2
    refine box3 hw fun w9 h9 => ?_
    have k9 : Keep w w9 := Keep.whole h9.right.right
    generalize w4.heap.size = vb at h9 ⊢
    refine ⟨xs[i].1, by rw [add_mk]; exact (objA_cells h9).1 1, ?_⟩
    refine clone_row h9 (byteRow_on (k9.sat hby)) hdl fun s12 w12 h12 => ?_
    have h12' : Sat (objA (some ⟨vb, 0, none⟩) [.int .i64 xs[i].2.lba, .slice xs[i].1.a xs[i].1.n xs[i].1.c, .bool xs[i].2.own] * (readsA out (rd.take i) * (byteRow s12 xs[i].2.data * whole w))) w12 := h12.eq (by ac_rfl)
    rw [add_mk]
    refine objA_store h12' (by simp) fun w13 h13 => ?_
    simp only [Nat.zero_add, List.set_cons_succ, List.set_cons_zero] at h13
    have c13 := (objA_cells h13).1
    refine ⟨(xs[i].2.lba, s12, xs[i].2.own), ⟨c13 0, c13 1, by rw [add_mk]; exact c13 2⟩, ?_⟩
    rw [withW_iff]
    have h15 := h13.right.alloc (.cells #[.int .i64 xs[i].2.lba, .slice s12.a s12.n s12.c, .bool xs[i].2.own] 76)
    have p0 := h15.cell 0
    have p1 := h15.cell 1
    have p2 := h15.cell 2
    refine reads_push (x := xs[i].2) (d := s12) h15.right ⟨p0, p1, p2⟩ (by simp; omega) fun s16 w17 h17 => ?_
    have e1 : IntKind.i64.wrap ((i : Int) + 1) = ((i + 1 : Nat) : Int) := by rw [wrap_of (by omega) (by omega)]; omega
    refine ⟨⟨i + 1, e1, by omega, ?_⟩, by rw [e1]; omega⟩
    rw [List.take_succ_eq_append_getElem hir, ← hxi]
    exact h17
  · obtain rfl : i = rd.length := by omega
    rw [List.take_length] at hw
    exact hk _ _ hw
/-- What is told of a transaction. -/
def Mgr.hist (M : Mgr) (h : Int) : Int × Int × Int × List Rd × List Put :=
  match lkp M.all h with
  | none => (0, 0, 0, [], [])
  | some T => (T.state, T.at_, T.time, T.view.reads, T.buf.puts)
/-- The seven cells of a history are written. -/
theorem set7 {b : Nat} {z0 z1 z2 z3 z4 z5 z6 v0 v1 v2 v3 v4 v5 v6 : Value} {R : HP} {w : World} {K : World → Prop} (h1 : Sat (objA (some ⟨b, 0, none⟩) [z0, z1, z2, z3, z4, z5, z6] * R) w) (hk : ∀ w', Sat (objA (some ⟨b, 0, none⟩) [v0, v1, v2, v3, v4, v5, v6] * R) w' → K w') :
    (((∃ u, w.cell? (⟨b, 0, none⟩ : Addr) = some u) ∧ w.frozen? (⟨b, 0, none⟩ : Addr) = false) ∧ ((∃ u, w.cell? ((⟨b, 0, none⟩ : Addr).add 1) = some u) ∧ w.frozen? ((⟨b, 0, none⟩ : Addr).add 1) = false) ∧ ((∃ u, w.cell? ((⟨b, 0, none⟩ : Addr).add 2) = some u) ∧ w.frozen? ((⟨b, 0, none⟩ : Addr).add 2) = false) ∧ ((∃ u, w.cell? ((⟨b, 0, none⟩ : Addr).add 3) = some u) ∧ w.frozen? ((⟨b, 0, none⟩ : Addr).add 3) = false) ∧ ((∃ u, w.cell? ((⟨b, 0, none⟩ : Addr).add 4) = some u) ∧ w.frozen? ((⟨b, 0, none⟩ : Addr).add 4) = false) ∧ ((∃ u, w.cell? ((⟨b, 0, none⟩ : Addr).add 5) = some u) ∧ w.frozen? ((⟨b, 0, none⟩ : Addr).add 5) = false) ∧ ((∃ u, w.cell? ((⟨b, 0, none⟩ : Addr).add 6) = some u) ∧ w.frozen? ((⟨b, 0, none⟩ : Addr).add 6) = false)) ∧ (true = true) ∧
      withW (((((((w.setCell (⟨b, 0, none⟩ : Addr) v0).setCell ((⟨b, 0, none⟩ : Addr).add 1) v1).setCell ((⟨b, 0, none⟩ : Addr).add 2) v2).setCell ((⟨b, 0, none⟩ : Addr).add 3) v3).setCell ((⟨b, 0, none⟩ : Addr).add 4) v4).setCell ((⟨b, 0, none⟩ : Addr).add 5) v5).setCell ((⟨b, 0, none⟩ : Addr).add 6) v6) K := by
  obtain ⟨hc, hf⟩ := objA_cells h1
  simp only [add_mk, Nat.zero_add]
  refine ⟨⟨⟨⟨z0, hc 0⟩, hf 0⟩, ⟨⟨z1, hc 1⟩, hf 1⟩, ⟨⟨z2, hc 2⟩, hf 2⟩, ⟨⟨z3, hc 3⟩, hf 3⟩, ⟨⟨z4, hc 4⟩, hf 4⟩, ⟨⟨z5, hc 5⟩, hf 5⟩, ⟨z6, hc 6⟩, hf 6⟩, trivial, ?_⟩
  exact hk _ (objA_set (objA_set (objA_set (objA_set (objA_set (objA_set (objA_set h1 0 v0) 1 v1) 2 v2) 3 v3) 4 v4) 5 v5) 6 v6)
theorem mgr_history {p : Option Addr} {M : Mgr} {i : Int} {R : HP} {w : World} {K : (Int × Int × Int × Int × Int × SV × SV) → World → Prop} (h : Sat (mgrA p M * R) w) (okT : ∀ T, lkp M.all i = some T → BufOk T.buf ∧ T.view.reads.length ≤ 2 ^ 30 ∧ ∀ x ∈ T.view.reads, x.data.length ≤ 2 ^ 40)
    (hk : ∀ s t w', Sat (readsA s (Mgr.hist M i).2.2.2.1 * (putsA t (Mgr.hist M i).2.2.2.2 * whole w)) w' → K ((Mgr.hist M i).1, (Mgr.hist M i).2.1, (Mgr.hist M i).2.2.1, 0, 0, s, t) w') : c_txn_Manager_History p i w K := by
  refine txn_Manager_History_go ?_
  unfold f_txn_Manager_History
  rw [withW_iff]
  have hv0 : Sat (objA (some ⟨w.heap.size, 0, none⟩) [.int .i64 0, .int .i64 0, .int .i64 0, .int .i64 0, .int .i64 0, .slice none 0 0, .slice none 0 0] * whole w) (w.alloc (.cells [.int .i64 0, .int .i64 0, .int .i64 0, .int .i64 0, .int .i64 0, .slice none 0 0, .slice none 0 0].toArray 73)) := objA_new (sat_whole w)
  change Sat _ (w.alloc (.cells #[.int .i64 0, .int .i64 0, .int .i64 0, .int .i64 0, .int .i64 0, .slice none 0 0, .slice none 0 0] 73)) at hv0
  generalize w.alloc (.cells #[.int .i64 0, .int .i64 0, .int .i64 0, .int .i64 0, .int .i64 0, .slice none 0 0, .slice none 0 0] 73) = w1 at hv0 ⊢
  generalize w.heap.size = vb at hv0 ⊢
  have hm1 := (Keep.whole hv0.right).sat h
  obtain ⟨mp, bk, r, qs, xs, hx, h1⟩ := mgrA_open hm1
  obtain ⟨a, b, c, rfl, rfl, rfl⟩ := mgr_ptr h1
  obtain ⟨a', ea, hcell, ⟨es, hcl, hfe⟩, _, _⟩ := mgr_cells h1
  cases ea
  have h2 : Sat (objA (some ⟨a, 0, none⟩) (mcells (some ⟨b, 0, none⟩) (some ⟨c, 0, none⟩) r qs M) * _) w1 := (by unfold mgrO at h1; exact h1.eq (mul_assoc' _ _ _))
  refine mgone_c h2 (bsplit_iff.2 ⟨fun e => (by cases e), fun _ => ?_⟩)
  rw [onP_some, add_mk]
  refine ⟨some r, hcell 2, rfl, ?_⟩
  rw [onM_some]
  have hlk : lkp M.all i = (lkp xs i).map Prod.snd := by rw [← hx, lkp_on2]
  have hfi := hfe i
  cases e : lkp xs i with
  | none =>
    rw [e] at hlk hfi
    simp only [Option.map_none] at hlk hfi
    have hh : Mgr.hist M i = (0, 0, 0, [], []) := by unfold Mgr.hist; rw [hlk]
    rw [hh] at hk
    refine ⟨es, hcl, none, by rw [hfi]; rfl, ?_⟩
    rw [hfi]
    refine bsplit_iff.2 ⟨fun _ => ?_, fun e => (by cases e)⟩
    refine set7 hv0 fun w14 h14 => ?_
    have c14 := (objA_cells h14).1
    refine ⟨(0, 0, 0, 0, 0, ⟨none, 0, 0⟩, ⟨none, 0, 0⟩), ⟨c14 0, ?_, ?_, ?_, ?_, ?_, ?_⟩, ?_⟩
    · rw [add_mk]; exact c14 1
    · rw [add_mk]; exact c14 2
    · rw [add_mk]; exact c14 3
    · rw [add_mk]; exact c14 4
    · rw [add_mk]; exact c14 5
    · rw [add_mk]; exact c14 6
    · refine hk ⟨none, 0, 0⟩ ⟨none, 0, 0⟩ w14 (readsA_nil (pairsA_nil h14.right rfl rfl))
  | some v =>
    obtain ⟨tp, T⟩ := v
    rw [e] at hlk hfi
    simp only [Option.map_some] at hlk hfi
    have hh : Mgr.hist M i = (T.state, T.at_, T.time, T.view.reads, T.buf.puts) := by unfold Mgr.hist; rw [hlk]
    rw [hh] at hk
    simp only at hk
    obtain ⟨d, bp, vp, rfl, hd, hbuf, hview⟩ := mgr_part h1 e
    obtain ⟨t1, t2, t3⟩ := okT T hlk
    refine ⟨es, hcl, some ⟨d, 0, none⟩, by rw [hfi]; rfl, ?_⟩
    rw [hfi]
    refine bsplit_iff.2 ⟨fun e => (by cases e), fun _ => ?_⟩
    rw [withW_iff]
    have kd := Keep.drew w1
    refine ⟨fun w' => Keep w1 w', kd, ?_⟩
    rw [onP_some]
    refine ⟨T.state, fun w' k => keep_cell k (hd 0), ?_⟩
    rw [onP_some]
    refine ⟨T.at_, fun w' k => by rw [add_mk]; exact keep_cell k (hd 3), ?_⟩
    rw [onP_some]
    refine ⟨T.time, fun w' k => by rw [add_mk]; exact keep_cell k (hd 1), ?_⟩
    rw [onP_some]
    refine ⟨vp, fun w' k => by rw [add_mk]; exact keep_cell k (hd 5), ?_⟩
    rw [onP_some]
    refine ⟨bp, fun w' k => by rw [add_mk]; exact keep_cell k (hd 4), ?_⟩
    refine view_reads (kd.sat hview) t2 t3 fun s33 w34 h34 => ?_
    have k34 := kd.trans (Keep.whole h34.right)
    refine ⟨k34, ?_⟩
    refine buf_puts (k34.sat hbuf) t1 fun s35 w36 h36 => ?_
    have k36 := k34.trans (Keep.whole h36.right)
    refine ⟨k36, ?_⟩
    have f34 := Sat.frame h34 (hv0.drew)
    have f36 := Sat.frame h36 f34
    have f37 : Sat (objA (some ⟨vb, 0, none⟩) [.int .i64 0, .int .i64 0, .int .i64 0, .int .i64 0, .int .i64 0, .slice none 0 0, .slice none 0 0] * (readsA s33 T.view.reads * (putsA s35 T.buf.puts * whole w))) w36 := f36.eq (by ac_rfl)
    refine set7 f37 fun w37 h37 => ?_
    have c37 := (objA_cells h37).1
    refine ⟨(T.state, T.at_, T.time, 0, 0, s33, s35), ⟨c37 0, ?_, ?_, ?_, ?_, ?_, ?_⟩, ?_⟩
    · rw [add_mk]; exact c37 1
    · rw [add_mk]; exact c37 2
    · rw [add_mk]; exact c37 3
    · rw [add_mk]; exact c37 4
    · rw [add_mk]; exact c37 5
    · rw [add_mk]; exact c37 6
    · exact hk s33 s35 w37 h37.right
theorem ok_history {N : Nat} {p : Option Addr} {M : Mgr} {i : Int} {R : HP} {w : World} {K : (Int × Int × Int × Int × Int × SV × SV) → World → Prop} (h : Sat (mgrA p M * R) w) (ok : MgrOk N M) (hN : N ≤ 2 ^ 16)
    (hk : ∀ s t w', Sat (readsA s (Mgr.hist M i).2.2.2.1 * (putsA t (Mgr.hist M i).2.2.2.2 * whole w)) w' → K ((Mgr.hist M i).1, (Mgr.hist M i).2.1, (Mgr.hist M i).2.2.1, 0, 0, s, t) w') : c_txn_Manager_History p i w K := by
  obtain ⟨B, I, hB⟩ := ok
  refine mgr_history h (fun T hT => ?_) hk
  have t := I.trn hT
  have hr := I.rds _ (lkp_mem hT)
  exact ⟨(t.buf.ok I.blocks.2).1, by simp only at hr; omega, fun x hx => by rw [t.rdat x hx]; omega⟩
end Go.Proofs.YtbolgpjcmchfoaaGreat
