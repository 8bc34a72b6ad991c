/- The law 'TxnSnaps', walked. -/
import Derived.Test.YtbolgpjcmchfoaaGreatLq
namespace Go.Sl
open Go Go.Vc Go.Mo
/-! ### Shared memory that nobody writes any more -/
def Mono (F : Heap → Prop) : Prop := ∀ h g, le h g → F h → F g
def pool (F : Heap → Prop) : HP := F
theorem pool_get {F : Heap → Prop} {R : HP} {w : World} (hF : Mono F) (h : Sat (pool F * R) w) : F (hp w) := by
  obtain ⟨g, hg, hf⟩ := h.left
  exact hF _ _ hg hf
theorem pool_new {R : HP} {w0 w : World} (h : Sat (whole w0 * R) w) : Sat (pool (fun h => le (hp w0) h) * R) w := by
  refine Sat.imp_left h fun g hg b o hb => ?_
  rw [hg b]; exact hb
def leC (h g : Heap) : Prop := ∀ a v, cellH h a = some v → cellH g a = some v
theorem rowOn_leC {h g : Heap} (hg : leC h g) {s : SV} {vs : List Value} (hr : rowOn h s vs) : rowOn g s vs := ⟨hr.1, fun ad ha i hi => hg _ _ (hr.2 ad ha i hi)⟩
theorem bytesOn_leC {h g : Heap} (hg : leC h g) {s : SV} {l : List UInt8} (hl : bytesOn h s l) : bytesOn g s l := ⟨hl.1, rowOn_leC hg hl.2⟩
/-- What one owns is given to all. -/
theorem pool_take {A R : HP} {F : Heap → Prop} {w : World} (hF : Mono F) (h : Sat (A * (pool F * R)) w) : ∃ w1, Sat A w1 ∧ Mono (fun h => leC (hp w1) h ∧ F h) ∧ Sat (pool (fun h => leC (hp w1) h ∧ F h) * R) w := by
  obtain ⟨g, hg, g1, g23, hd, hu, ha, g2, g3, hd', hu', hf, hr⟩ := h
  have h1 : ∀ b o, g1 b = some o → w.heap[b]? = some o := fun b o hb => hg b o (by rw [hu b, hb]; rfl)
  refine ⟨{ w with heap := w.heap.mapIdx fun b o => match g1 b with | some _ => o | none => .cells #[] 0 (0, 0) }, ⟨g1, fun b o hb => ?_, ha⟩, fun h g hl hh => ⟨fun a v hv => cellH_le hl (hh.1 a v hv), hF _ _ hl hh.2⟩, g, hg, fun b => (g1 b).or (g2 b), g3, fun b => ?_, fun b => ?_, ⟨fun a v hv => ?_, hF g2 _ (fun b o hb => ?_) hf⟩, hr⟩
  · show (w.heap.mapIdx _)[b]? = some o
    rw [Array.getElem?_mapIdx, h1 b o hb, Option.map_some, hb]
  · have a1 := hd b
    have a2 := hd' b
    rw [hu' b] at a1
    cases e1 : g1 b <;> cases e2 : g2 b <;> cases e3 : g3 b <;> simp_all
  · dsimp only
    rw [hu b, hu' b]; cases g1 b <;> simp
  · have key : ∀ o, (w.heap.mapIdx fun b o => match g1 b with | some _ => o | none => .cells #[] 0 (0, 0))[a.block]? = some o → (∃ c t f, o = .cells c t f ∧ ∃ u, c[a.off]? = some u) → (g1 a.block).or (g2 a.block) = some o := fun o ho hc => by
      rw [Array.getElem?_mapIdx] at ho
      cases e : g1 a.block with
      | some o' =>
        rw [h1 _ _ e] at ho
        simp only [Option.map_some, e] at ho
        cases ho; rfl
      | none =>
        cases e2 : w.heap[a.block]? with
        | none => rw [e2] at ho; cases ho
        | some o2 =>
          rw [e2] at ho
          simp only [Option.map_some, e] at ho
          cases ho
          obtain ⟨c, t, f, hc, u, hu⟩ := hc
          cases hc
          simp at hu
    unfold cellH at hv ⊢
    dsimp only
    simp only [hp] at hv
    cases e : (w.heap.mapIdx fun b o => match g1 b with | some _ => o | none => .cells #[] 0 (0, 0))[a.block]? with
    | none => rw [e] at hv; cases hv
    | some o =>
      rw [e] at hv
      cases o with
      | cells c t f =>
        simp only at hv
        split at hv
        · cases hv
        · rename_i hs
          rw [key _ e ⟨c, t, f, rfl, v, hv⟩]
          simp only
          rw [if_neg hs]; exact hv
      | _ => cases hv
  · have a1 := hd b
    rw [hu' b, hb] at a1
    simp at a1
    simp [a1, hb]
/-! ### One cell of a row of one's own -/
theorem own_set1 {s : SV} {vs : List Value} {R : HP} {w : World} {i : Nat} (h : Sat (ownS 1 s vs * R) w) (hi : i < vs.length) : ∃ b, s.a = some ⟨b, 0, none⟩ ∧ ((∃ u, w.cell? ⟨b, i, none⟩ = some u) ∧ w.frozen? ⟨b, i, none⟩ = false) ∧ ∀ v, Sat (ownS 1 s (vs.set i v) * R) (w.setCell ⟨b, i, none⟩ v) := by
  have hsplit : vs = vs.take i ++ [vs[i]] ++ vs.drop (i + 1) := by rw [← List.take_succ_eq_append_getElem hi, List.take_append_drop]
  have hpl : (vs.take i).length = i := by rw [List.length_take]; omega
  have e0 : ∀ b, (⟨b, i, none⟩ : Addr).add 0 = ⟨b, i, none⟩ := fun b => by rw [add_mk]; rfl
  obtain ⟨b, hb, hc⟩ := ownS_cell h hi
  refine ⟨b, hb, ?_, fun v => ?_⟩
  · obtain ⟨b', hb', hst, _⟩ := ownS_store (news := [.int .i64 0]) h hsplit rfl (by simp)
    rw [hb] at hb'; cases hb'
    rw [hpl, storable_iff] at hst
    have h1 := hst 0 (by simp)
    simp only [Nat.add_zero, e0] at h1
    exact h1
  · obtain ⟨b', hb', _, hset⟩ := ownS_store (news := [v]) h hsplit rfl (by simp)
    rw [hb] at hb'; cases hb'
    rw [hpl] at hset
    simp only [storeAll, e0] at hset
    rw [List.set_eq_take_append_cons_drop, if_pos hi]
    simpa using hset
theorem all_at {α : Type} {A : α → HP} : ∀ (xs : List α) (j : Nat) (hj : j < xs.length), all xs A = A xs[j] * all (xs.eraseIdx j) A
  | x :: r, 0, _ => rfl
  | x :: r, j + 1, hj => by
    have ih := all_at (A := A) r j (by simpa using hj)
    simp only [all, List.getElem_cons_succ, List.eraseIdx_cons_succ]
    rw [ih]; ac_rfl
theorem all_set {α : Type} {A : α → HP} {y : α} : ∀ (xs : List α) (j : Nat) (_ : j < xs.length), all (xs.set j y) A = A y * all (xs.eraseIdx j) A
  | x :: r, 0, _ => rfl
  | x :: r, j + 1, hj => by
    have ih := all_set (A := A) (y := y) r j (by simpa using hj)
    simp only [List.set_cons_succ, all, List.eraseIdx_cons_succ]
    rw [ih]; ac_rfl
end Go.Sl
namespace Go.Proofs.YtbolgpjcmchfoaaGreat
open Go Go.Vc Go.Sl Go.Mo
def rowA (s : SV) (r : Row) : HP := ownS 1 s (r.map fun q => slv q.1)
def snapsA (s : SV) (xs : List (SV × Row)) : HP := ownS 1 s (xs.map fun x => slv x.1) * Sl.all xs fun x => rowA x.1 x.2
theorem row_n {s : SV} {r : Row} {R : HP} {w : World} (h : Sat (rowA s r * R) w) : s.n = r.length := by
  have := ownS_length h
  rw [List.length_map] at this; omega
theorem row_get {s : SV} {r : Row} {R : HP} {w : World} (h : Sat (rowA s r * R) w) {i : Nat} (hi : i < r.length) : ∃ b, s.a = some ⟨b, 0, none⟩ ∧ w.cell? ⟨b, i, none⟩ = some (slv r[i].1) := by
  obtain ⟨b, hb, hc⟩ := ownS_cell h (i := i) (by rw [List.length_map]; exact hi)
  exact ⟨b, hb, by rw [hc i (by rw [List.length_map]; exact hi), List.getElem_map]⟩
theorem row_set {s : SV} {r : Row} {R : HP} {w : World} (h : Sat (rowA s r * R) w) {i : Nat} (hi : i < r.length) : ∃ b, s.a = some ⟨b, 0, none⟩ ∧ ((∃ u, w.cell? ⟨b, i, none⟩ = some u) ∧ w.frozen? ⟨b, i, none⟩ = false) ∧ ∀ q : SV × List UInt8, Sat (rowA s (r.set i q) * R) (w.setCell ⟨b, i, none⟩ (.slice q.1.a q.1.n q.1.c)) := by
  obtain ⟨b, hb, h1, h2⟩ := own_set1 h (i := i) (by rw [List.length_map]; exact hi)
  refine ⟨b, hb, h1, fun q => ?_⟩
  unfold rowA
  rw [List.map_set]
  exact h2 _
theorem snaps_n {s : SV} {xs : List (SV × Row)} {R : HP} {w : World} (h : Sat (snapsA s xs * R) w) : s.n = xs.length := by
  have := ownS_length (h.eq (mul_assoc' _ _ _))
  rw [List.length_map] at this; omega
/-- One of the rows, laid open. -/
theorem snaps_at {s : SV} {xs : List (SV × Row)} {R : HP} {w : World} (h : Sat (snapsA s xs * R) w) {j : Nat} (hj : j < xs.length) : ∃ b H, s.a = some ⟨b, 0, none⟩ ∧ w.cell? ⟨b, j, none⟩ = some (slv xs[j].1) ∧ Sat (rowA xs[j].1 xs[j].2 * (H * R)) w ∧
    (∀ w' R', Sat (H * R') w' → w'.cell? ⟨b, j, none⟩ = some (slv xs[j].1)) ∧ ∀ w' R' r, Sat (rowA xs[j].1 r * (H * R')) w' → Sat (snapsA s (xs.set j (xs[j].1, r)) * R') w' := by
  have h1 := h.eq (mul_assoc' _ _ _)
  obtain ⟨b, hb, hc⟩ := ownS_cell h1 (i := j) (by rw [List.length_map]; exact hj)
  have hcell : ∀ w' R', Sat (ownS 1 s (xs.map fun x => slv x.1) * R') w' → w'.cell? ⟨b, j, none⟩ = some (slv xs[j].1) := fun w' R' h' => by
    obtain ⟨b', hb', hc'⟩ := ownS_cell h' (i := j) (by rw [List.length_map]; exact hj)
    rw [hb] at hb'; cases hb'
    rw [hc' j (by rw [List.length_map]; exact hj), List.getElem_map]
  refine ⟨b, ownS 1 s (xs.map fun x => slv x.1) * Sl.all (xs.eraseIdx j) fun x => rowA x.1 x.2, hb, hcell _ _ h1, ?_, fun w' R' h' => hcell w' _ (h'.eq (mul_assoc' _ _ _)), fun w' R' r h' => ?_⟩
  · rw [all_at xs j hj] at h1
    exact h1.eq (by ac_rfl)
  · unfold snapsA
    have e : ((xs.set j (xs[j].1, r)).map fun x => slv x.1) = xs.map fun x => slv x.1 := by
      rw [List.map_set]
      have e0 : (xs.map fun x => slv x.1).set j ((xs.map fun x => slv x.1)[j]'(by rw [List.length_map]; exact hj)) = xs.map fun x => slv x.1 := List.set_getElem_self _
      rw [List.getElem_map] at e0
      exact e0
    rw [e, all_set xs j hj]
    exact h'.eq (by ac_rfl)
def Known (F : Heap → Prop) (q : SV × List UInt8) : Prop := ∀ h, F h → bytesOn h q.1 q.2
theorem keep_of_le {w w' : World} (h : le (hp w) (hp w')) : Keep w w' := fun b hb => by
  have h1 : hp w b = some w.heap[b] := by simp [hp, hb]
  have h2 := h b _ h1
  rw [hp] at h1 h2
  rw [h1, h2]
theorem bytes_sub {h : Heap} {s : SV} {l : List UInt8} {lo n c : Nat} (hl : bytesOn h s l) (hn : lo + n ≤ l.length) (h0 : 0 < n) (hc : s.n ≤ s.c) : bytesOn h ⟨sub? s.a lo s.c 1, n, c⟩ ((l.drop lo).take n) := by
  have hsn := hl.1
  refine ⟨by simp; omega, ?_⟩
  cases ha : s.a with
  | none => have := hl.2.1 ha; simp [bytesV] at this; subst this; simp at hn; omega
  | some ad =>
    have hs : sub? (some ad) lo s.c 1 = some (ad.add lo) := by
      unfold sub?
      rw [if_neg (by omega)]; simp
    rw [hs]
    refine ⟨fun e => (by cases e), fun ad' had i hi => ?_⟩
    cases had
    have hi' : i < n := by simp [bytesV] at hi; omega
    have h1 := hl.2.2 ad ha (lo + i) (by simp [bytesV]; omega)
    have e : (ad.add lo).add i = ad.add (lo + i) := by
      unfold Addr.add
      by_cases h0 : lo = 0
      · subst h0; simp
      · by_cases h1 : i = 0
        · subst h1; simp [h0]
        · simp [h0, h1]; omega
    rw [e, h1]
    simp [bytesV]
theorem flat_sub {f : Int → List UInt8} : ∀ (l : List Int) (k : Nat) (hk : k < l.length), (∀ x ∈ l, (f x).length = 40) → ((l.flatMap f).drop (40 * k)).take 40 = f l[k]
  | x :: r, 0, _, h => by
    have := h x (by simp)
    simp only [List.flatMap_cons, Nat.mul_zero, List.drop_zero, List.getElem_cons_zero]
    rw [List.take_append_of_le_length (by omega), List.take_of_length_le (by omega)]
  | x :: r, k + 1, hk, h => by
    have h1 := h x (by simp)
    have ih := flat_sub (f := f) r k (by simpa using hk) fun y hy => h y (by simp [hy])
    simp only [List.flatMap_cons, List.getElem_cons_succ]
    rw [show 40 * (k + 1) = (f x).length + 40 * k from by omega, ← List.drop_drop, List.drop_left]
    exact ih
theorem read_ok {M : Mgr} {i : Int} {e : Ext} (h : (M.readE i e).2.2 = 0) : ∃ T, M.opn i = some T ∧ within M.m e = true ∧ (M.readE i e).2.1 = (blocksOf e).flatMap fun k => (seenB M.m T.buf T.view.at_ k).data := by
  unfold Mgr.readE at h ⊢
  cases ho : M.opn i with
  | none => rw [ho] at h; simp at h
  | some T =>
    rw [ho] at h
    simp only at h ⊢
    refine ⟨T, rfl, ?_⟩
    unfold View.read at h ⊢
    repeat' split at h
    all_goals first | (simp at h; done) | skip
    rename_i a b c
    rw [if_neg a, if_neg b, if_neg c]
    exact ⟨by simpa using b, rfl⟩
structure Snap (F : Heap → Prop) (w0 : World) (now : Row) (xs : List (SV × Row)) (i : Nat) (M : Mgr) : Prop where
  wf : Wf M.queue M
  out : M.out = 0
  bl : M.m.blocks = 20
  sem : Sem now xs M
  len : xs.length ≤ i
  mono : Mono F
  base : ∀ h, F h → le (hp w0) h
  kn : ∀ q ∈ now, Known F q
  kx : ∀ x ∈ xs, ∀ q ∈ x.2, Known F q
theorem snaps_nil {R : HP} {w : World} (h : Sat R w) : Sat (snapsA ⟨none, 0, 0⟩ [] * R) w := by
  unfold snapsA
  simp only [List.map_nil, Sl.all, mul_one']
  exact ownS_nil h rfl rfl
theorem Known.more {F G : Heap → Prop} {q : SV × List UInt8} (h : Known F q) : Known (fun h => G h ∧ F h) q := fun g hg => h g hg.2
theorem row0_known {F : Heap → Prop} : ∀ q ∈ List.replicate 20 ((⟨none, 0, 0⟩ : SV), ([] : List UInt8)), Known F q := fun q hq h _ => by
  obtain rfl := List.eq_of_mem_replicate hq
  exact bytesOn_none
section
variable {F : Heap → Prop} {w0 : World} {now : Row} {xs : List (SV × Row)} {i : Nat} {M : Mgr}
theorem Snap.with_ (h : Snap F w0 now xs i M) {N : Mgr} (wf : Wf N.queue N) (out : N.out = 0) (bl : N.m.blocks = M.m.blocks) (sem : Sem now xs N) : Snap F w0 now xs (i + 1) N :=
  ⟨wf, out, bl.trans h.bl, sem, by have := h.len; omega, h.mono, h.base, h.kn, h.kx⟩
theorem snap_begin (h : Snap F w0 now xs i M) (hb : M.begin.2.2 = 0) (s : SV) : Snap F w0 now (xs ++ [(s, now)]) (i + 1) M.begin.1 := by
  obtain ⟨a, b, c, d, e, f, g⟩ := begin_rest M
  refine ⟨by rw [f]; exact wf_begin h.wf, by rw [e]; exact h.out, by rw [a]; exact h.bl, sem_begin h.sem hb s, by have := h.len; simp; omega, h.mono, h.base, h.kn, fun x hx => ?_⟩
  rcases List.mem_append.1 hx with e | e
  · exact h.kx x e
  · simp only [List.mem_singleton] at e; subst e; exact h.kn
theorem snap_read (h : Snap F w0 now xs i M) (k : Int) (e : Ext) : Snap F w0 now xs (i + 1) (M.readE k e).1 := by
  have s := stay_read M k e
  have hq : (M.readE k e).1.queue = M.queue ∧ (M.readE k e).1.out = M.out := by unfold Mgr.readE; split <;> exact ⟨rfl, rfl⟩
  exact h.with_ (by rw [hq.1]; exact wf_read h.wf k e) (by rw [hq.2]; exact h.out) s.bl (sem_read h.sem k e)
theorem snap_abort (h : Snap F w0 now xs i M) (k : Int) : Snap F w0 now xs (i + 1) (M.abort k).1 := by
  have s := stay_abort M k
  have hq : (M.abort k).1.queue = M.queue ∧ (M.abort k).1.out = M.out := by
    unfold Mgr.abort; split
    · exact ⟨rfl, rfl⟩
    · unfold Mgr.end_; split <;> exact ⟨rfl, rfl⟩
  exact h.with_ (by rw [hq.1]; exact wf_abort h.wf k) (by rw [hq.2]; exact h.out) s.bl (sem_abort h.sem k)
theorem snap_commit (h : Snap F w0 now xs i M) (k : Int) : Snap F w0 now xs (i + 1) (M.commit k).1 := by
  obtain ⟨a, b, c, d, e, f⟩ := commit_rest M k
  exact h.with_ (wf_commit h.wf k) (by rw [e]; exact h.out) (by rw [a]) (sem_commit h.sem k)
theorem snap_prune (h : Snap F w0 now xs i M) : Snap F w0 now xs (i + 1) M.prune.1 := h.with_ (wf_prune h.wf) h.out rfl (sem_prune h.sem h.wf)
theorem snap_same (h : Snap F w0 now xs i M) : Snap F w0 now xs (i + 1) M := h.with_ h.wf h.out rfl h.sem
theorem snap_write0 (h : Snap F w0 now xs i M) {k : Int} {l : List Put} (hw : (M.write k l).2 ≠ 0) : Snap F w0 now xs (i + 1) (M.write k l).1 := by
  have s := stay_write M k l
  have hq : (M.write k l).1.queue = M.queue ∧ (M.write k l).1.out = M.out := by unfold Mgr.write; split <;> exact ⟨rfl, rfl⟩
  exact h.with_ (by rw [hq.1]; exact wf_write h.wf k l) (by rw [hq.2]; exact h.out) s.bl (write_no h.sem hw)
theorem snap_write (h : Snap F w0 now xs i M) {j : Nat} {l : List Put} {x : SV × Row} {r : Row} (hw : (M.write ((j : Int) + 1) l).2 = 0) (hx : xs[j]? = some x) (hr : r.length = 20) (hkr : ∀ q ∈ r, Known F q)
    (hv : ∀ k : Nat, k < 20 → val r k = nowF (fun j => val x.2 j.toNat) l k) : Snap F w0 now (xs.set j (x.1, r)) (i + 1) (M.write ((j : Int) + 1) l).1 := by
  have s := stay_write M ((j : Int) + 1) l
  have hq : (M.write ((j : Int) + 1) l).1.queue = M.queue ∧ (M.write ((j : Int) + 1) l).1.out = M.out := by unfold Mgr.write; split <;> exact ⟨rfl, rfl⟩
  obtain ⟨T, ho, _, he⟩ := write_ok hw
  refine ⟨by rw [hq.1]; exact wf_write h.wf _ l, by rw [hq.2]; exact h.out, s.bl.trans h.bl, ?_, by have := h.len; simp; omega, h.mono, h.base, h.kn, fun y hy => ?_⟩
  · rw [he]; exact sem_write h.sem ho hx hr hv x.1
  · rcases List.mem_or_eq_of_mem_set hy with e | e
    · exact h.kx y e
    · subst e; exact hkr
theorem snap_flush {N : Nat} {G : Heap → Prop} {now' : Row} (h : Snap F w0 now xs i M) (ok : MgrOk N M) (hb : M.batch.2.2 = 0) (hn : now'.length = 20) (hm : Mono fun h => G h ∧ F h) (hkn : ∀ q ∈ now', Known (fun h => G h ∧ F h) q)
    (hv : ∀ k : Nat, k < 20 → val now' k = nowF (fun j => val now j.toNat) (M.batch.2.1.2.flatMap Tx.puts) k) : Snap (fun h => G h ∧ F h) w0 now' xs (i + 1) (M.batch.1.done 0).1 := by
  have s := (stay_batch M).trans (stay_done M.batch.1 0)
  obtain ⟨a, b, c, d, e⟩ := batch_all M
  have hw : Wf M.batch.1.queue M.batch.1 := by rw [b]; exact wf_batch h.wf
  exact ⟨wf_done hw 0, done_out _ _, s.bl.trans h.bl, (sem_flush h.sem h.wf ok h.out hb hn hv).1, by have := h.len; omega, hm, fun g hg => h.base g hg.2, hkn, fun x hx q hq => (h.kx x hx q hq).more⟩
end
theorem box2s {z1 z2 v1 v2 : Value} {t : Nat} {R : HP} {w : World} {K : World → Prop} (h : Sat R w) (hk : ∀ w', Sat (objA (some ⟨w.heap.size, 0, none⟩) [v1, v2] * R) w' → K w') :
    withW (w.alloc (.cells #[z1, z2] t)) fun w7 => (((∃ u, w7.cell? (⟨w.heap.size, 0, none⟩ : Addr) = some u) ∧ w7.frozen? (⟨w.heap.size, 0, none⟩ : Addr) = false) ∧ ((∃ u, w7.cell? (⟨w.heap.size, 1, none⟩ : Addr) = some u) ∧ w7.frozen? (⟨w.heap.size, 1, none⟩ : Addr) = false)) ∧ True ∧
      withW ((w7.setCell (⟨w.heap.size, 0, none⟩ : Addr) v1).setCell (⟨w.heap.size, 1, none⟩ : Addr) v2) K := by
  have := box2 (z1 := z1) (z2 := z2) (v1 := v1) (v2 := v2) (t := t) (K := K) h fun w' _ h' => hk w' h'
  simpa only [add_mk, Nat.zero_add] using this
theorem done_zero {M : Mgr} (wf : Wf M.queue M) (ho : M.out = 0) (hb : M.batch.2.2 = 0) : (M.batch.1.done 0).2 = 0 := by
  have hq : M.queue.length ≠ 0 := fun e => by
    unfold Mgr.batch at hb
    rw [if_neg (by omega), if_pos e] at hb
    simp at hb
  have hwne : M.waiting ≠ [] := by
    rw [wf.waiting]
    intro he
    rw [List.map_eq_nil_iff] at he
    rw [he] at hq; exact hq rfl
  have hf := formL_pos hwne 0
  have hbo : M.batch.1.out = formL M.waiting 0 0 := by
    unfold Mgr.batch
    rw [if_neg (by omega), if_neg hq]
  unfold Mgr.done
  rw [if_neg (by omega)]
theorem batch_len {N : Nat} {M : Mgr} (wf : Wf M.queue M) (ok : MgrOk N M) : M.batch.2.1.2.length ≤ N := by
  obtain ⟨B, I, _⟩ := ok
  have hw : M.waiting.length = M.queue.length := by rw [wf.waiting, List.length_map]
  have := I.qlen
  unfold Mgr.batch
  split
  · simp
  · split
    · simp
    · simp only [List.length_take]; omega
theorem good_len {t : Tx} (h : TxGood 20 t) : t.puts.length ≤ 20 := by
  obtain ⟨h1, h2, _⟩ := h
  unfold riseM at h1
  simp only [decide_eq_true_eq] at h1
  have := rise_length (n := 20) h1.2 fun x hx => by
    obtain ⟨p, hp, rfl⟩ := List.mem_map.1 hx
    have := h2 p hp
    omega
  rwa [List.length_map] at this
theorem batch_good {N : Nat} {M : Mgr} (wf : Wf M.queue M) (ok : MgrOk N M) : ∀ t ∈ M.batch.2.1.2, TxGood M.m.blocks t := by
  intro t ht
  have hm : t ∈ M.waiting := by
    unfold Mgr.batch at ht
    split at ht
    · simp at ht
    · split at ht
      · simp at ht
      · exact List.mem_of_mem_take ht
  rw [wf.waiting] at hm
  obtain ⟨k, hk, rfl⟩ := List.mem_map.1 hm
  obtain ⟨T, hT, hs⟩ := (wf.qs k).1 hk
  rw [txOf_some hT]
  exact good_of wf ok k T hT hs
set_option maxRecDepth 20000 in
set_option maxHeartbeats 2000000 in
theorem snaps_c {s : SV} {l : List Stp} {w : World} {K : Bool → World → Prop} (hs : StepsArg w s l) (hk : ∀ w', Keep w w' → K true w') : c_scarplaw23_TxnSnaps s w K := by
  refine scarplaw23_TxnSnaps_go ?_
  unfold f_scarplaw23_TxnSnaps
  refine small_c hs.1 fun b w2 k2 hsm => ?_
  have hsn := hs.1.1
  cases b with
  | false => exact bsplit_iff.2 ⟨fun _ => awake_c fun w' k' => hk _ (k2.trans k'), fun e => (by cases e)⟩
  | true =>
  obtain ⟨hlen, hlp⟩ := hsm rfl
  refine bsplit_iff.2 ⟨fun e => (by cases e), fun _ => ?_⟩
  refine mgr_new (n := 20) (last := 0) (sat_whole w2) (by omega) (by omega) fun p w6 h6 => ?_
  refine bsplit_iff.2 ⟨fun e => (by cases e), fun _ => bsplit_iff.2 ⟨fun e => (by cases e), fun _ => ?_⟩⟩
  refine ⟨by omega, by omega, by omega, by omega, ?_⟩
  rw [withW_iff]
  have h7 := h6.alloc (.cells (zrow [.slice none 0 0] (20 : Int).toNat).toArray 30)
  have hz : zrow [Value.slice none 0 0] (20 : Int).toNat = (List.replicate 20 ((⟨none, 0, 0⟩ : SV), ([] : List UInt8))).map fun q => slv q.1 := by kernel_rfl
  have h7' : Sat (rowA ⟨some ⟨w6.heap.size, 0, none⟩, (20 : Int).toNat, (20 : Int).toNat⟩ (List.replicate 20 ((⟨none, 0, 0⟩ : SV), ([] : List UInt8))) * (mgrA (some ⟨p, 0, none⟩) (Mgr.new 20 0) * whole w2)) (w6.alloc (.cells (zrow [.slice none 0 0] (20 : Int).toNat).toArray 30)) := by
    unfold rowA
    rw [← hz]
    exact ownS_mk (sp := []) (by rw [List.append_nil]; exact h7) (by rw [zrow_length]; rfl) (Nat.le_refl _) (by rw [zrow_length]; rfl)
  have h7p := snaps_nil (pool_new (h7'.eq (by ac_rfl : _ = whole w2 * (mgrA (some ⟨p, 0, none⟩) (Mgr.new 20 0) * rowA ⟨some ⟨w6.heap.size, 0, none⟩, (20 : Int).toNat, (20 : Int).toNat⟩ (List.replicate 20 ((⟨none, 0, 0⟩ : SV), ([] : List UInt8)))))))
  clear h7 h7'
  generalize w6.alloc (.cells (zrow [.slice none 0 0] (20 : Int).toNat).toArray 30) = w7 at h7p ⊢
  generalize w6.heap.size = nb at h7p ⊢
  obtain ⟨nowS, hnowS⟩ : ∃ x : SV, x = ⟨some ⟨nb, 0, none⟩, (20 : Int).toNat, (20 : Int).toNat⟩ := ⟨_, rfl⟩
  rw [← hnowS] at h7p ⊢
  have snap0 : Snap (fun h => le (hp w2) h) w2 (List.replicate 20 ((⟨none, 0, 0⟩ : SV), ([] : List UInt8))) [] 0 (Mgr.new 20 0) := by
    refine ⟨wf_new (by omega), rfl, rfl, ⟨by simp, by simp, rfl, fun k hk => ?_, fun i x T hx => by simp at hx⟩, Nat.le_refl _, fun h g hl hh => fun b o hb => hl b o (hh b o hb), fun h hh => hh, row0_known, by simp⟩
    unfold val
    rw [List.getElem?_replicate, if_pos hk]
    rfl
  refine loop_i (fun (x : SV × Bool × Int) w' => ∃ (i : Nat) (M : Mgr) (now : Row) (xs : List (SV × Row)) (F : Heap → Prop), x.2.2 = i ∧ i ≤ l.length ∧ MgrOk (2 * i) M ∧ Snap F w2 now xs i M ∧ Sat (mgrA (some ⟨p, 0, none⟩) M * (rowA nowS now * (snapsA x.1 xs * pool F))) w') (fun x _ => (l.length - x.2.2).toNat)
    ⟨0, _, _, [], _, rfl, by omega, mgrOk_new (by omega) (by omega), snap0, h7p.eq (by ac_rfl)⟩ ?_
  rintro ⟨s8, y8, x8⟩ w9 ⟨i, M, now, xs, F, hx8, hi, ok9, snap, h9⟩
  simp only at hx8 h9; subst hx8
  dsimp only
  rw [hsn]
  refine bsplit_decide.2 ⟨fun hlt => ?_, fun hge => ?_⟩
  · have hi' : i < l.length := by omega
    have kw : Keep w2 w9 := keep_of_le (snap.base _ (pool_get snap.mono (h9.eq (by ac_rfl : _ = pool F * (mgrA (some ⟨p, 0, none⟩) M * (rowA nowS now * snapsA s8 xs))))))
    obtain ⟨ad, d, ha, hc3, hd⟩ := (stepsOn_le (keep_le k2) hs.1).2 i hi'
    have hc := stp_cells_le (keep_le kw) hc3
    clear hc3
    have hdl := hlp _ (List.getElem_mem hi')
    have hin := hs.2 _ (List.getElem_mem hi')
    have e1 : IntKind.i64.wrap ((i : Int) + 1) = ((i + 1 : Nat) : Int) := by rw [wrap_of (by omega) (by omega)]; omega
    have ht0 := hc 0 (by omega)
    rw [add0] at ht0
    generalize l[i] = t at hc hd hdl ht0 hin
    rw [e1]
    refine ⟨by omega, by omega, onP_i ha ⟨(t.kind, t.h, t.e.first, t.e.len, d, t.n), ⟨ht0, hc 1 (by omega), hc 2 (by omega), hc 3 (by omega), hc 4 (by omega), hc 5 (by omega)⟩, ?_⟩⟩
    refine box6 h9 fun w14 h14 => ?_
    generalize w9.heap.size = sb at h14 ⊢
    simp only [add_mk, Nat.zero_add, withI_iff]
    have hcell : ∀ (R : HP) (w' : World), Sat (objA (some ⟨sb, 0, none⟩) [.int .i64 t.kind, .int .i64 t.h, .int .i64 t.e.first, .int .i64 t.e.len, .slice d.a d.n d.c, .int .i64 t.n] * R) w' → ∀ j, w'.cell? ⟨sb, j, none⟩ = ([.int .i64 t.kind, .int .i64 t.h, .int .i64 t.e.first, .int .i64 t.e.len, .slice d.a d.n d.c, .int .i64 t.n] : List Value)[j]? := fun R w' h => (objA_cells h).1
    generalize objA (some ⟨sb, 0, none⟩) [.int .i64 t.kind, .int .i64 t.h, .int .i64 t.e.first, .int .i64 t.e.len, .slice d.a d.n d.c, .int .i64 t.n] = OB at h14 hcell
    have h14c := hcell _ _ h14
    have h14m := h14.eq (by ac_rfl : _ = mgrA (some ⟨p, 0, none⟩) M * (OB * (rowA nowS now * (snapsA s8 xs * pool F))))
    have drop : ∀ {N' : Mgr} {now' : Row} {s' : SV} {xs' : List (SV × Row)} {F' : Heap → Prop} {w' : World}, Sat (mgrA (some ⟨p, 0, none⟩) N' * (OB * (rowA nowS now' * (snapsA s' xs' * pool F')))) w' → Sat (mgrA (some ⟨p, 0, none⟩) N' * (rowA nowS now' * (snapsA s' xs' * pool F'))) w' := fun {N' now' s' xs' F' w'} h => (h.eq (by ac_rfl : _ = OB * (mgrA (some ⟨p, 0, none⟩) N' * (rowA nowS now' * (snapsA s' xs' * pool F'))))).right
    refine ⟨t.kind, h14c 0, bsplit_decide.2 ⟨fun _ => ?_, fun _ => bsplit_decide.2 ⟨fun _ => ?_, fun _ => bsplit_decide.2 ⟨fun _ => ?_, fun _ => bsplit_decide.2 ⟨fun _ => ?_, fun _ => bsplit_decide.2 ⟨fun _ => ?_, fun _ => bsplit_decide.2 ⟨fun _ => ?_, fun _ => bsplit_decide.2 ⟨fun _ => ?_, fun _ => ?_⟩⟩⟩⟩⟩⟩⟩⟩
    · refine ok_begin h14m ok9 (by omega) fun w17 ok17 h17 => ?_
      refine bsplit_decide.2 ⟨fun hb => ?_, fun hb => ⟨⟨i + 1, _, _, _, _, rfl, by omega, ok17.mono (by omega), by rw [begin_no hb]; exact snap_same snap, drop h17⟩, by omega⟩⟩
      have sn := fun s => snap_begin snap hb s
      have ok17' := ok17.mono (N' := 2 * (i + 1)) (by omega)
      clear ok17
      generalize M.begin.1 = M' at sn ok17' h17
      have h17' := drop h17
      rw [withW_iff]
      have h18 : Sat (ownS 1 ⟨some ⟨w17.heap.size, 0, none⟩, 0, 0⟩ [] * (mgrA (some ⟨p, 0, none⟩) M' * (rowA nowS now * (snapsA s8 xs * pool F)))) (w17.alloc (.cells #[] 30)) := ownS_mk (sp := []) (h17'.alloc (.cells #[] 30)) rfl (Nat.le_refl _) rfl
      generalize w17.alloc (.cells #[] 30) = w18 at h18 ⊢
      generalize w17.heap.size = ab at h18 ⊢
      have hnl := snap.sem.nl
      have hrow := h18.eq (by ac_rfl : _ = rowA nowS now * (ownS 1 ⟨some ⟨ab, 0, none⟩, 0, 0⟩ [] * (mgrA (some ⟨p, 0, none⟩) M' * (snapsA s8 xs * pool F))))
      have hnn : nowS.n = 20 := by rw [row_n hrow, hnl]
      refine append_own (news := now.map fun q => slv q.1) h18 (by rw [List.length_map, hnl, hnn]) (by rw [List.all_map]; exact List.all_eq_true.2 fun _ _ => rfl) (ownS_cells hrow) (fun e => ownS_none hrow e) (by rw [hnn]; show (0 + 20) * 24 ≤ 2 ^ 44; decide) (by decide) rfl fun s19 w20 _ h20 => ?_
      rw [List.nil_append] at h20
      rw [withW_iff]
      have h20' : Sat (rowA s19 now * (mgrA (some ⟨p, 0, none⟩) M' * (rowA nowS now * (snapsA s8 xs * pool F)))) w20 := h20
      have h21 := h20'.alloc (.cells #[.slice s19.a s19.n s19.c] 65)
      generalize w20.alloc (.cells #[.slice s19.a s19.n s19.c] 65) = w21 at h21 ⊢
      generalize w20.heap.size = bx at h21 ⊢
      have hsx := h21.eq (by ac_rfl : _ = snapsA s8 xs * (pt bx (.cells #[.slice s19.a s19.n s19.c] 65) * (rowA s19 now * (mgrA (some ⟨p, 0, none⟩) M' * (rowA nowS now * pool F)))))
      have hs8 := snaps_n hsx
      have hxl := snap.len
      unfold snapsA at hsx
      have hbx := h21.cell 0
      refine append_own (news := [slv s19]) (hsx.eq (mul_assoc' _ _ _)) rfl rfl (fun ad had => by cases had; exact hbx) (fun e => by cases e) (by simp only; omega) (by decide) rfl fun s22 w23 _ h23 => ?_
      refine ⟨⟨i + 1, M', now, xs ++ [(s19, now)], F, rfl, by omega, ok17', sn s19, ?_⟩, by omega⟩
      have e2 : snapsA s22 (xs ++ [(s19, now)]) = ownS 1 s22 ((xs.map fun x => slv x.1) ++ [slv s19]) * ((Sl.all xs fun x => rowA x.1 x.2) * rowA s19 now) := by
        unfold snapsA
        rw [List.map_append, all_append]
        simp only [List.map_cons, List.map_nil, Sl.all, mul_one']
      have h24 := h23.eq (by ac_rfl : _ = pt bx (.cells #[.slice s19.a s19.n s19.c] 65) * (ownS 1 s22 ((xs.map fun x => slv x.1) ++ [slv s19]) * ((Sl.all xs fun x => rowA x.1 x.2) * (rowA s19 now * (mgrA (some ⟨p, 0, none⟩) M' * (rowA nowS now * pool F))))))
      refine h24.right.eq ?_
      show _ = mgrA (some ⟨p, 0, none⟩) M' * (rowA nowS now * (snapsA s22 (xs ++ [(s19, now)]) * pool F))
      rw [e2]; ac_rfl
    · refine ⟨t.h, h14c 1, (t.e.first, t.e.len), ⟨h14c 2, h14c 3⟩, ?_⟩
      refine ok_read (e := t.e) h14m ok9 (by omega) fun s28 w29 ok29 h29 => ?_
      have sn := snap_read snap t.h t.e
      have hrd := @read_ok M t.h t.e
      have ok29' := ok29.mono (N' := 2 * (i + 1)) (by omega)
      clear ok29
      generalize (M.readE t.h t.e).2.2 = code at hrd ⊢
      generalize (M.readE t.h t.e).2.1 = D at hrd h29
      generalize (M.readE t.h t.e).1 = M' at sn ok29' h29
      refine loop_i (fun (x : Bool × Int) w' => ∃ j : Nat, x.2 = j ∧ j ≤ t.e.len.toNat ∧ Sat (byteRow s28 D * (mgrA (some ⟨p, 0, none⟩) M' * (OB * (rowA nowS now * (snapsA s8 xs * pool F))))) w') (fun x _ => (t.e.len - x.2).toNat) ⟨0, rfl, by omega, h29⟩ ?_
      rintro ⟨y1, x⟩ w31 ⟨j, hx, hj, h31⟩
      simp only at hx; subst hx
      dsimp only
      have h31c := hcell _ _ (h31.eq (by ac_rfl : _ = OB * (byteRow s28 D * (mgrA (some ⟨p, 0, none⟩) M' * (rowA nowS now * (snapsA s8 xs * pool F))))))
      have hlen64 := hin.len
      unfold i64in at hlen64
      refine ⟨t.e.len, h31c 3, bsplit_decide.2 ⟨fun hlt2 => bsplit_decide.2 ⟨fun hc0 => ?_, fun _ => ⟨⟨i + 1, _, _, _, _, rfl, by omega, ok29', sn, drop h31.right⟩, by omega⟩⟩, fun _ => ⟨⟨i + 1, _, _, _, _, rfl, by omega, ok29', sn, drop h31.right⟩, by omega⟩⟩⟩
      obtain ⟨T, hT, hwi, hD⟩ := hrd hc0
      obtain ⟨hl1, hl2⟩ := opn_lkp hT
      have hhb := (snap.wf.hs t.h).1 (by rw [hl1]; rfl)
      have hnx := snap.sem.nx
      obtain ⟨j0, hj0⟩ : ∃ j0 : Nat, t.h = (j0 : Int) + 1 := ⟨(t.h - 1).toNat, by omega⟩
      have hjx : j0 < xs.length := by omega
      unfold within at hwi
      simp only [Bool.and_eq_true, decide_eq_true_eq] at hwi
      have hbl := snap.bl
      obtain ⟨f0, hf0⟩ : ∃ f0 : Nat, t.e.first = f0 := ⟨t.e.first.toNat, by omega⟩
      rw [withW_iff]
      have h34 := h31.drew
      generalize w31.drew = w34 at h34 ⊢
      have h34c := hcell _ _ (h34.eq (by ac_rfl : _ = OB * (byteRow s28 D * (mgrA (some ⟨p, 0, none⟩) M' * (rowA nowS now * (snapsA s8 xs * pool F))))))
      have h34s := h34.eq (by ac_rfl : _ = snapsA s8 xs * (byteRow s28 D * (mgrA (some ⟨p, 0, none⟩) M' * (OB * (rowA nowS now * pool F)))))
      obtain ⟨bs, HH, hbs, hbc, hrow, _, _⟩ := snaps_at h34s hjx
      have hs8 := snaps_n h34s
      have hxl := snap.len
      have ew1 : IntKind.i64.wrap (t.h - 1) = (j0 : Int) := by rw [wrap_of (by omega) (by omega)]; omega
      have ew2 : IntKind.i64.wrap (t.e.first + (j : Int)) = ((f0 + j : Nat) : Int) := by rw [wrap_of (by omega) (by omega)]; omega
      have ew3 : IntKind.i64.wrap (40 * (j : Int)) = ((40 * j : Nat) : Int) := by rw [wrap_of (by omega) (by omega)]; omega
      have ew4 : IntKind.i64.wrap (((40 * j : Nat) : Int) + 40) = ((40 * j + 40 : Nat) : Int) := by rw [wrap_of (by omega) (by omega)]; omega
      have ew5 : IntKind.i64.wrap ((j : Int) + 1) = ((j + 1 : Nat) : Int) := by rw [wrap_of (by omega) (by omega)]; omega
      have hxr := snap.sem.xl _ (List.getElem_mem hjx)
      have hrn := row_n hrow
      have hfj : f0 + j < xs[j0].2.length := by omega
      obtain ⟨br, hbr, hrc⟩ := row_get hrow hfj
      have hkq := snap.kx _ (List.getElem_mem hjx) _ (List.getElem_mem hfj)
      have hsem := snap.sem.b j0 xs[j0] T (List.getElem?_eq_getElem hjx) (by rw [← hj0]; exact hl1) hl2 (f0 + j) (by omega)
      have hpool := pool_get snap.mono (h34.eq (by ac_rfl : _ = pool F * (byteRow s28 D * (mgrA (some ⟨p, 0, none⟩) M' * (OB * (rowA nowS now * snapsA s8 xs))))))
      have hbq := hkq _ hpool
      have hval : val xs[j0].2 (f0 + j) = bz (xs[j0].2[f0 + j]).2 := by unfold val; rw [List.getElem?_eq_getElem hfj]; rfl
      obtain ⟨B, I, hB⟩ := id ok9
      have tin := I.trn hl1
      have hseen : (seenB M.m T.buf T.view.at_ (t.e.first + (j : Int))).data = bz (xs[j0].2[f0 + j]).2 := by
        rw [seen_val, tin.vat, ← hval, hsem, hf0]
        rfl
      have hlens : ∀ x ∈ blocksOf t.e, ((fun k => (seenB M.m T.buf T.view.at_ k).data) x).length = 40 := fun x _ => seen_len I.vers fun q hq => (tin.buf.data q hq).2
      have hjb : j < (blocksOf t.e).length := by rw [blocksOf_length]; omega
      have hDl : D.length = (blocksOf t.e).length * 40 := by rw [hD]; exact flatMap_len _ hlens
      have hsub : (D.drop (40 * j)).take 40 = bz (xs[j0].2[f0 + j]).2 := by
        rw [hD, flat_sub _ _ hjb hlens, blocksOf_get]; exact hseen
      have hsn28 : s28.n = D.length := (byteRow_on h34.left).1
      have hsc28 : s28.n ≤ s28.c := ownS_cap h34
      have hbsub := bytes_sub (lo := 40 * j) (n := 40) (c := s28.c - 40 * j) (byteRow_on h34.left) (by rw [hDl]; omega) (by omega) hsc28
      rw [hsub] at hbsub
      have hq40 : (bz (xs[j0].2[f0 + j]).2).length = 40 := by rw [← hsub, List.length_take, List.length_drop, hDl]; omega
      generalize xs[j0].2[f0 + j] = q at hrc hbq hbsub hq40 hsub
      refine ⟨t.h, h34c 1, ?_⟩
      rw [ew1]
      refine ⟨by omega, by omega, onP_i hbs ⟨xs[j0].1, ?_, t.e.first, h34c 2, ?_⟩⟩
      · rw [Int.toNat_natCast, Nat.mul_one, add_mk, Nat.zero_add]; exact hbc
      rw [ew2]
      refine ⟨by omega, by omega, onP_i hbr ⟨q.1, ?_, ?_⟩⟩
      · rw [Int.toNat_natCast, Nat.mul_one, add_mk, Nat.zero_add]; exact hrc
      have hqn := hbq.1
      rw [ew3, ew4, ew5]
      simp only [Int.toNat_natCast, Nat.add_sub_cancel_left]
      refine bsplit_decide.2 ⟨fun hz0 => ?_, fun hz0 => ?_⟩
      · refine zeros_alloc h34 fun w41 h41 => ?_
        have hbz : bz q.2 = zeros := by unfold bz; rw [if_pos (by omega)]
        rw [hbz] at hbsub
        refine ⟨by omega, by omega, by omega, ?_⟩
        have hb41 : bytesOn (hp w41) ⟨sub? s28.a (40 * j) s28.c 1, 40, s28.c - 40 * j⟩ zeros := by
          have := bytes_sub (lo := 40 * j) (n := 40) (c := s28.c - 40 * j) (byteRow_on h41.right.left) (by rw [hDl]; omega) (by omega) hsc28
          rw [hsub, hbz] at this
          exact this
        refine bytes_c hb41 (byteRow_on h41.left) (by simp [zeros]) fun w43 k43 => ?_
        refine bsplit_iff.2 ⟨fun e => (by simp at e), fun _ => ?_⟩
        exact ⟨⟨j + 1, rfl, by omega, (k43.sat h41).right⟩, by omega⟩
      · have hbz : bz q.2 = q.2 := by unfold bz; rw [if_neg (by omega)]
        rw [hbz] at hbsub hq40
        refine ⟨by omega, by omega, by omega, ?_⟩
        refine bytes_c hbsub hbq (by omega) fun w45 k45 => ?_
        refine bsplit_iff.2 ⟨fun e => (by simp at e), fun _ => ?_⟩
        exact ⟨⟨j + 1, rfl, by omega, k45.sat h34⟩, by omega⟩
    · refine ⟨t.h, h14c 1, d, h14c 4, ?_⟩
      have hlp2 : ∀ (R : HP) (w' : World), Sat (pool F * R) w' → putsOn (hp w') d t.l := fun R w' h' => putsOn_le (snap.base _ (pool_get snap.mono h')) hd
      refine ok_write (l := t.l) h14m ok9 (fun w' hw' => hlp2 (OB * (rowA nowS now * snapsA s8 xs)) w' (hw'.eq (by ac_rfl))) (by omega) fun w51 ok51 h51 => ?_
      refine bsplit_decide.2 ⟨fun hw => ?_, fun hw => ⟨⟨i + 1, _, _, _, _, rfl, by omega, ok51.mono (by omega), snap_write0 snap hw, drop h51⟩, by omega⟩⟩
      obtain ⟨T, hT, hput, _⟩ := write_ok hw
      obtain ⟨hl1, hl2⟩ := opn_lkp hT
      have hhb := (snap.wf.hs t.h).1 (by rw [hl1]; rfl)
      have hnx := snap.sem.nx
      have hxl := snap.len
      have hbl := snap.bl
      obtain ⟨j0, hj0⟩ : ∃ j0 : Nat, t.h = (j0 : Int) + 1 := ⟨(t.h - 1).toNat, by omega⟩
      have hjx : j0 < xs.length := by omega
      obtain ⟨B, I, hB⟩ := id ok9
      have hTb : T.buf.blocks = 20 := (I.trn hl1).buf.bl.trans hbl
      rw [hj0] at hw
      have snw := fun (r : Row) => snap_write (r := r) snap hw (List.getElem?_eq_getElem hjx)
      rw [← hj0] at snw
      have ok51' := ok51.mono (N' := 2 * (i + 1)) (by omega)
      clear ok51 hw
      generalize (M.write t.h t.l).1 = M' at snw ok51' h51
      have hxr := snap.sem.xl _ (List.getElem_mem hjx)
      have hset0 : xs.set j0 (xs[j0].1, xs[j0].2) = xs := List.set_getElem_self _
      have ew1 : IntKind.i64.wrap (t.h - 1) = (j0 : Int) := by rw [wrap_of (by omega) (by omega)]; omega
      refine loop_i (fun (x : Int) w' => ∃ (j : Nat) (r : Row), x = j ∧ j ≤ t.l.length ∧ r.length = 20 ∧ (∀ q ∈ r, Known F q) ∧ (∀ k : Nat, k < 20 → val r k = nowF (fun j => val xs[j0].2 j.toNat) (t.l.take j) k) ∧ Sat (mgrA (some ⟨p, 0, none⟩) M' * (OB * (rowA nowS now * (snapsA s8 (xs.set j0 (xs[j0].1, r)) * pool F)))) w') (fun x _ => (t.l.length - x).toNat)
        ⟨0, xs[j0].2, rfl, by omega, hxr, snap.kx _ (List.getElem_mem hjx), fun k _ => by simp [nowF], by rw [hset0]; exact h51⟩ ?_
      rintro x w53 ⟨j, r, rfl, hj, hrl, hkr, hvr, h53⟩
      have h53c := hcell _ _ (h53.eq (by ac_rfl : _ = OB * (mgrA (some ⟨p, 0, none⟩) M' * (rowA nowS now * (snapsA s8 (xs.set j0 (xs[j0].1, r)) * pool F)))))
      have hdn := hd.1
      refine ⟨d, h53c 4, ?_⟩
      rw [hdn]
      refine bsplit_decide.2 ⟨fun hlt2 => ?_, fun hge2 => ?_⟩
      · have hj' : j < t.l.length := by omega
        rw [withW_iff]
        have h57 := h53.drew
        generalize w53.drew = w57 at h57 ⊢
        have h57c := hcell _ _ (h57.eq (by ac_rfl : _ = OB * (mgrA (some ⟨p, 0, none⟩) M' * (rowA nowS now * (snapsA s8 (xs.set j0 (xs[j0].1, r)) * pool F)))))
        have h57s := h57.eq (by ac_rfl : _ = snapsA s8 (xs.set j0 (xs[j0].1, r)) * (mgrA (some ⟨p, 0, none⟩) M' * (OB * (rowA nowS now * pool F))))
        have hjx' : j0 < (xs.set j0 (xs[j0].1, r)).length := by rw [List.length_set]; exact hjx
        obtain ⟨bs, HH, hbs, hbc, hrow, hcl1, hcl2⟩ := snaps_at h57s hjx'
        have hs8 := snaps_n h57s
        rw [List.length_set] at hs8
        simp only [List.getElem_set_self, List.set_set] at hbc hrow hcl1 hcl2
        have hrn := row_n hrow
        have hp57 := hlp2 (mgrA (some ⟨p, 0, none⟩) M' * (OB * (rowA nowS now * snapsA s8 (xs.set j0 (xs[j0].1, r))))) w57 (h57.eq (by ac_rfl))
        obtain ⟨ad1, e, had1, hq1, hq2, hq3⟩ := hd.2 j hj'
        have kw57 : le (hp w2) (hp w57) := snap.base _ (pool_get snap.mono (h57.eq (by ac_rfl : _ = pool F * (mgrA (some ⟨p, 0, none⟩) M' * (OB * (rowA nowS now * snapsA s8 (xs.set j0 (xs[j0].1, r))))))))
        have hq1' := cellH_le kw57 hq1
        have hq2' := cellH_le kw57 hq2
        obtain ⟨⟨hp1, hp2⟩, hp3⟩ := hput _ (List.getElem_mem hj')
        rw [hTb] at hp2
        obtain ⟨m, hm⟩ : ∃ m : Nat, t.l[j].lba = m := ⟨t.l[j].lba.toNat, by omega⟩
        have hmr : m < r.length := by omega
        obtain ⟨br, hbr, hst, hset⟩ := row_set hrow hmr
        refine ⟨fun w' => w' = w57, rfl, t.h, fun w' e => by subst e; exact h57c 1, ?_⟩
        rw [ew1]
        refine ⟨by omega, by omega, onP_i hbs ⟨xs[j0].1, fun w' e => ?_, d, fun w' e => by subst e; exact h57c 4, by omega, by omega, onP_i had1 ⟨t.l[j].lba, fun w' e => by subst e; rw [Int.toNat_natCast]; exact hq1', d, fun w' e => by subst e; exact h57c 4, by omega, by omega, onP_i had1 ⟨e, fun w' e => by subst e; rw [Int.toNat_natCast]; exact hq2', by omega, by omega, onP_i hbr ?_⟩⟩⟩⟩
        · subst e; rw [Int.toNat_natCast, Nat.mul_one, add_mk, Nat.zero_add]; exact hbc
        rw [hm, Int.toNat_natCast, Nat.mul_one, add_mk, Nat.zero_add]
        refine ⟨hst, trivial, ?_⟩
        rw [withW_iff]
        have e2 : IntKind.i64.wrap ((j : Int) + 1) = ((j + 1 : Nat) : Int) := by rw [wrap_of (by omega) (by omega)]; omega
        rw [e2]
        have h74 := hcl2 _ _ _ (hset (e, t.l[j].data))
        refine ⟨⟨j + 1, r.set m (e, t.l[j].data), rfl, by omega, by rw [List.length_set]; exact hrl, fun q hq => ?_, fun k hk => ?_, h74.eq (by ac_rfl)⟩, by omega⟩
        · rcases List.mem_or_eq_of_mem_set hq with h' | h'
          · exact hkr q h'
          · subst h'; exact fun g hg => bytesOn_le (snap.base g hg) hq3
        · rw [val_set hmr, List.take_succ_eq_append_getElem hj', nowF_append]
          simp only [nowF, List.foldl_cons, List.foldl_nil]
          have hmk : ((k : Int) = t.l[j].lba) ↔ k = m := by omega
          by_cases ek : k = m
          · rw [if_pos ek, if_pos (hmk.2 ek)]
            unfold bz
            rw [if_neg (by omega)]
          · rw [if_neg ek, if_neg fun h => ek (hmk.1 h)]
            exact hvr k hk
      · obtain rfl : j = t.l.length := by omega
        rw [List.take_length] at hvr
        exact ⟨⟨i + 1, M', now, xs.set j0 (xs[j0].1, r), F, rfl, by omega, ok51', snw r hrl hkr hvr, drop h53⟩, by omega⟩
    · refine ⟨t.h, h14c 1, ?_⟩
      exact ok_commit h14m ok9 (by omega) fun w' ok' h' => ⟨⟨i + 1, _, _, _, _, rfl, by omega, ok'.mono (by omega), snap_commit snap t.h, drop h'⟩, by omega⟩
    · refine ⟨t.h, h14c 1, ?_⟩
      exact ok_abort h14m ok9 fun w' ok' h' => ⟨⟨i + 1, _, _, _, _, rfl, by omega, ok'.mono (by omega), snap_abort snap t.h, drop h'⟩, by omega⟩
    · refine ok_batch h14m ok9 (by omega) fun s' w86 ok86 h86 => ?_
      refine box2s h86 fun w88 h88 => ?_
      generalize w86.heap.size = bb at h88 ⊢
      have hcb : ∀ (R : HP) (w' : World), Sat (objA (some ⟨bb, 0, none⟩) [.int .i64 M.batch.2.1.1, .slice s'.a s'.n s'.c] * R) w' → w'.cell? ⟨bb, 1, none⟩ = some (.slice s'.a s'.n s'.c) := fun R w' h => (objA_cells h).1 1
      dsimp only at h88 ⊢
      generalize objA (some ⟨bb, 0, none⟩) [.int .i64 M.batch.2.1.1, .slice s'.a s'.n s'.c] = OC at h88 hcb
      refine bsplit_decide.2 ⟨fun hb => ?_, fun hb => ⟨⟨i + 1, _, now, xs, F, rfl, by omega, ok86.mono (by omega), by rw [batch_no snap.out hb]; exact snap_same snap, drop h88.right.right⟩, by omega⟩⟩
      have hgood := batch_good snap.wf ok9
      rw [snap.bl] at hgood
      have sn := fun (G : Heap → Prop) (now' : Row) => snap_flush (G := G) (now' := now') snap ok9 hb
      have hdz := done_zero snap.wf snap.out hb
      have htl := batch_len snap.wf ok9
      generalize M.batch.2.1.2 = txs at h88 hgood sn htl
      refine ok_done (h88.eq (by ac_rfl : _ = mgrA (some ⟨p, 0, none⟩) M.batch.1 * (OC * (batchA s' txs * (OB * (rowA nowS now * (snapsA s8 xs * pool F))))))) ok86 (by omega) fun w90 ok90 h90 => ?_
      rw [hdz]
      refine bsplit_decide.2 ⟨fun _ => ?_, fun e => absurd rfl e⟩
      have ok90' := ok90.mono (N' := 2 * (i + 1)) (by omega)
      clear ok90 ok86 hdz
      generalize (M.batch.1.done 0).1 = M' at sn ok90' h90
      obtain ⟨w1, hw1, hmono, h90p⟩ := pool_take snap.mono (h90.eq (by ac_rfl : _ = batchA s' txs * (pool F * (mgrA (some ⟨p, 0, none⟩) M' * (OC * (OB * (rowA nowS now * snapsA s8 xs)))))))
      have htx : txsOn (hp w1) s' txs := batchA_on (R := 1) (hw1.eq (mul_one' _).symm)
      obtain ⟨F', hF'⟩ : ∃ F' : Heap → Prop, F' = fun h => leC (hp w1) h ∧ F h := ⟨_, rfl⟩
      rw [← hF'] at hmono h90p
      have sn' := fun (now' : Row) => sn (leC (hp w1)) now'
      rw [← hF'] at sn'
      have hF1 : ∀ h, F' h → leC (hp w1) h := fun h hh => by rw [hF'] at hh; exact hh.1
      have hkn0 : ∀ q ∈ now, Known F' q := fun q hq => by rw [hF']; exact (snap.kn q hq).more
      clear sn hF' h90 h88 h86
      have hsn' := htx.1
      refine loop_i (fun (x : Int) w' => ∃ (j : Nat) (now' : Row), x = j ∧ j ≤ txs.length ∧ now'.length = 20 ∧ (∀ q ∈ now', Known F' q) ∧ (∀ k : Nat, k < 20 → val now' k = nowF (fun j => val now j.toNat) ((txs.take j).flatMap Tx.puts) k) ∧ Sat (rowA nowS now' * (OC * (pool F' * (mgrA (some ⟨p, 0, none⟩) M' * (OB * snapsA s8 xs))))) w') (fun x _ => (txs.length - x).toNat)
        ⟨0, now, rfl, by omega, snap.sem.nl, hkn0, fun k _ => by simp [nowF], h90p.eq (by ac_rfl)⟩ ?_
      rintro x w92 ⟨j, now1, rfl, hj, hl1, hkn1, hv1, h92⟩
      refine ⟨s', hcb _ _ (h92.eq (by ac_rfl : _ = OC * (rowA nowS now1 * (pool F' * (mgrA (some ⟨p, 0, none⟩) M' * (OB * snapsA s8 xs)))))), ?_⟩
      rw [hsn']
      refine bsplit_decide.2 ⟨fun hlt2 => ?_, fun hge2 => ?_⟩
      · have hj' : j < txs.length := by omega
        obtain ⟨ad1, dj, had1, _, hq2, hq3⟩ := htx.2 j hj'
        have hpl := hq3.1
        have hgj := hgood _ (List.getElem_mem hj')
        have hplen := good_len hgj
        refine loop_i (fun (x : Int) w' => ∃ (k : Nat) (now' : Row), x = k ∧ k ≤ txs[j].puts.length ∧ now'.length = 20 ∧ (∀ q ∈ now', Known F' q) ∧ (∀ i : Nat, i < 20 → val now' i = nowF (fun j => val now1 j.toNat) (txs[j].puts.take k) i) ∧ Sat (rowA nowS now' * (OC * (pool F' * (mgrA (some ⟨p, 0, none⟩) M' * (OB * snapsA s8 xs))))) w') (fun x _ => (txs[j].puts.length - x).toNat)
          ⟨0, now1, rfl, by omega, hl1, hkn1, fun k _ => by simp [nowF], h92⟩ ?_
        rintro x w96 ⟨k, now2, rfl, hkk, hl2, hkn2, hv2, h96⟩
        have hc96 := hcb _ _ (h96.eq (by ac_rfl : _ = OC * (rowA nowS now2 * (pool F' * (mgrA (some ⟨p, 0, none⟩) M' * (OB * snapsA s8 xs))))))
        have hF96 := hF1 _ (pool_get hmono (h96.eq (by ac_rfl : _ = pool F' * (rowA nowS now2 * (OC * (mgrA (some ⟨p, 0, none⟩) M' * (OB * snapsA s8 xs)))))))
        refine ⟨s', hc96, by omega, by omega, onP_i had1 ⟨dj, ?_, ?_⟩⟩
        · rw [Int.toNat_natCast]; exact hF96 _ _ hq2
        rw [hpl]
        refine bsplit_decide.2 ⟨fun hlt3 => ?_, fun hge3 => ?_⟩
        · have hk' : k < txs[j].puts.length := by omega
          obtain ⟨ad2, e, had2, hr1, hr2, hr3⟩ := hq3.2 k hk'
          obtain ⟨hg1, hg2, hg3⟩ := hgj.2.1 _ (List.getElem_mem hk')
          obtain ⟨m, hm⟩ : ∃ m : Nat, txs[j].puts[k].lba = m := ⟨txs[j].puts[k].lba.toNat, by omega⟩
          rw [withW_iff]
          have h102 := h96.drew
          generalize w96.drew = w102 at h102 ⊢
          have hc102 := hcb _ _ (h102.eq (by ac_rfl : _ = OC * (rowA nowS now2 * (pool F' * (mgrA (some ⟨p, 0, none⟩) M' * (OB * snapsA s8 xs))))))
          have hF102 := hF1 _ (pool_get hmono (h102.eq (by ac_rfl : _ = pool F' * (rowA nowS now2 * (OC * (mgrA (some ⟨p, 0, none⟩) M' * (OB * snapsA s8 xs)))))))
          have hmr : m < now2.length := by omega
          obtain ⟨br, hbr, hst, hset⟩ := row_set h102 hmr
          rw [hnowS] at hbr
          cases hbr
          refine ⟨fun w' => w' = w102, rfl, s', fun w' e => by subst e; exact hc102, by omega, by omega, onP_i had1 ⟨dj, fun w' e => by subst e; rw [Int.toNat_natCast]; exact hF102 _ _ hq2, by omega, by omega, onP_i had2 ⟨txs[j].puts[k].lba, fun w' e => by subst e; rw [Int.toNat_natCast]; exact hF102 _ _ hr1, s', fun w' e => by subst e; exact hc102, by omega, by omega, onP_i had1 ⟨dj, fun w' e => by subst e; rw [Int.toNat_natCast]; exact hF102 _ _ hq2, by omega, by omega, onP_i had2 ⟨e, fun w' e => by subst e; rw [Int.toNat_natCast]; exact hF102 _ _ hr2, by omega, by omega, ?_⟩⟩⟩⟩⟩
          rw [hm, Int.toNat_natCast, Nat.mul_one]
          refine ⟨hst, trivial, ?_⟩
          rw [withW_iff]
          have e2 : IntKind.i64.wrap ((k : Int) + 1) = ((k + 1 : Nat) : Int) := by rw [wrap_of (by omega) (by omega)]; omega
          rw [e2]
          refine ⟨⟨k + 1, now2.set m (e, txs[j].puts[k].data), rfl, by omega, by rw [List.length_set]; exact hl2, fun q hq => ?_, fun i' hi' => ?_, hset (e, txs[j].puts[k].data)⟩, by omega⟩
          · rcases List.mem_or_eq_of_mem_set hq with h' | h'
            · exact hkn2 q h'
            · subst h'; exact fun g hg => bytesOn_leC (hF1 g hg) hr3
          · rw [val_set hmr, List.take_succ_eq_append_getElem hk', nowF_append]
            simp only [nowF, List.foldl_cons, List.foldl_nil]
            have hmk : ((i' : Int) = txs[j].puts[k].lba) ↔ i' = m := by omega
            by_cases ek : i' = m
            · rw [if_pos ek, if_pos (hmk.2 ek)]
              unfold bz
              rw [if_neg (by omega)]
            · rw [if_neg ek, if_neg fun h => ek (hmk.1 h)]
              exact hv2 i' hi'
        · obtain rfl : k = txs[j].puts.length := by omega
          rw [List.take_length] at hv2
          have e2 : IntKind.i64.wrap ((j : Int) + 1) = ((j + 1 : Nat) : Int) := by rw [wrap_of (by omega) (by omega)]; omega
          rw [e2]
          refine ⟨⟨j + 1, now2, rfl, by omega, hl2, hkn2, fun i' hi' => ?_, h96⟩, by omega⟩
          rw [hv2 i' hi', List.take_succ_eq_append_getElem hj', List.flatMap_append, nowF_append]
          simp only [List.flatMap_cons, List.flatMap_nil, List.append_nil]
          refine nowF_congr (P := fun j => 0 ≤ j ∧ j < 20) (fun n hn => ?_) _ _ (by omega)
          obtain ⟨n', rfl⟩ : ∃ n' : Nat, n = n' := ⟨n.toNat, by omega⟩
          exact hv1 n' (by omega)
      · obtain rfl : j = txs.length := by omega
        rw [List.take_length] at hv1
        exact ⟨⟨i + 1, M', now1, xs, F', rfl, by omega, ok90', sn' now1 hl1 hmono hkn1 hv1, (h92.eq (by ac_rfl : _ = OC * (OB * (mgrA (some ⟨p, 0, none⟩) M' * (rowA nowS now1 * (snapsA s8 xs * pool F')))))).right.right⟩, by omega⟩
    · exact ok_prune h14m ok9 (by omega) fun w' ok' h' => ⟨⟨i + 1, _, _, _, _, rfl, by omega, ok'.mono (by omega), snap_prune snap, drop h'⟩, by omega⟩
    · exact ⟨⟨i + 1, _, _, _, _, rfl, by omega, ok9.mono (by omega), snap_same snap, drop h14m⟩, by omega⟩
  · have kw : Keep w2 w9 := keep_of_le (snap.base _ (pool_get snap.mono (h9.eq (by ac_rfl : _ = pool F * (mgrA (some ⟨p, 0, none⟩) M * (rowA nowS now * snapsA s8 xs))))))
    exact awake_c fun w' k' => hk _ ((k2.trans kw).trans k')
theorem snaps_row (w : World) (s : SV) (l : List Stp) (hl : StepsArg w s l) : Calls Tryz.prog 11 #[.slice s.a s.n s.c] w fun r w' => r = .returned (.bool true) ∧ RowKit.Below w.heap.size w w' :=
  row_of (snaps_c hl fun _ k => ⟨rfl, k⟩)
end Go.Proofs.YtbolgpjcmchfoaaGreat
