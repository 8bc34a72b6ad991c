/- The reference's manager: what it is in memory; opening, beginning, ending. -/
import Derived.Test.YtbolgpjcmchfoaaGreatUj
namespace Go.Proofs.YtbolgpjcmchfoaaGreat
open Go Go.Vc Go.Sl Go.Mo
def idxF : Int → List Trn → List (Int × Trn)
  | _, [] => []
  | k, T :: r => (k, T) :: idxF (k + 1) r
theorem lkp_idxF {h : Int} : ∀ (l : List Trn) (k : Int), lkp (idxF k l) h = if k ≤ h then l[(h - k).toNat]? else none
  | [], k => by simp [idxF, lkp]
  | T :: r, k => by
    simp only [idxF, lkp]
    by_cases e : h = k
    · subst e; simp
    · rw [if_neg e, lkp_idxF r]
      by_cases q : k ≤ h
      · rw [if_pos (by omega), if_pos q, show (h - k).toNat = (h - (k + 1)).toNat + 1 from by omega, List.getElem?_cons_succ]
      · rw [if_neg (by omega), if_neg q]
theorem put_idxF {h : Int} {T : Trn} : ∀ (l : List Trn) (k : Int), k ≤ h → (h - k).toNat < l.length → put (idxF k l) h T = idxF k (l.set (h - k).toNat T)
  | [], _, _, hl => by simp at hl
  | U :: r, k, hk, hl => by
    simp only [idxF, put]
    by_cases e : h = k
    · subst e; simp [idxF]
    · have e2 : (h - k).toNat = (h - (k + 1)).toNat + 1 := by omega
      rw [if_neg e, e2, List.set_cons_succ, put_idxF r (k + 1) (by omega) (by rw [e2] at hl; simpa using hl)]
      rfl
theorem put_idxF_new {T : Trn} : ∀ (l : List Trn) (k : Int), put (idxF k l) (k + (l.length : Nat)) T = idxF k (l ++ [T])
  | [], k => by simp [idxF, put]
  | U :: r, k => by
    simp only [idxF, put, List.cons_append]
    rw [if_neg (by simp; omega), show k + ((U :: r).length : Nat) = (k + 1) + (r.length : Nat) from by simp; omega, put_idxF_new r (k + 1)]
/-! ### In memory -/
structure TR where
  p : Nat
  v : Nat
  b : Nat
  sl : SV
  rs : SV
  bl : SV
  ys : List (SV × Rd)
def tP (x : TR) (T : Trn) : HP := objA (some ⟨x.p, 0, none⟩) [.int .i64 T.state, .int .i64 T.time, .int .i64 T.code, .pointer (some ⟨x.v, 0, none⟩), .pointer (some ⟨x.b, 0, none⟩)]
def tV (bm : Nat) (x : TR) (T : Trn) : HP := objA (some ⟨x.v, 0, none⟩) [.pointer (some ⟨bm, 0, none⟩), .pointer (some ⟨x.b, 0, none⟩), .int .i64 T.view.at_, .int .i64 64, slv x.sl, slv x.rs]
def tB (x : TR) (T : Trn) : HP := objA (some ⟨x.b, 0, none⟩) [.int .i64 T.buf.blocks, .int .i64 T.buf.most, slv x.bl]
def tR (x : TR) : HP := ownS 3 x.rs (x.ys.flatMap rdC)
def trR (bm : Nat) (x : TR × Trn) : HP := tV bm x.1 x.2 * (tB x.1 x.2 * (tR x.1 * tP x.1 x.2))
structure TrF (F : Heap → Prop) (x : TR) (T : Trn) : Prop where
  sl : KExts F x.sl T.view.set.l
  ys : x.ys.map Prod.snd = T.view.reads
  yk : ∀ y ∈ x.ys, Known F (y.1, y.2.data)
  bl : KPuts F x.bl T.buf.puts
  at_ : T.view.at_ = T.at_
  nf : NF T.view.set.l
  wb : ∀ x ∈ T.view.set.l, x.first + x.len ≤ 1048576
theorem TrF.more {F G : Heap → Prop} {x : TR} {T : Trn} (h : TrF F x T) (hg : ∀ h, G h → F h) : TrF G x T := ⟨KRow.more h.sl hg, h.ys, fun y hy g hh => h.yk y hy g (hg g hh), h.bl.more hg, h.at_, h.nf, h.wb⟩
/-- W: the transactions that wait. -/
structure RefF (F : Heap → Prop) (sh st sq qh sv : SV) (xs : List (TR × Trn)) (W : List Tx) (M : Mgr) : Prop where
  vers : KVers F sv (flatV M.m)
  bh : KInts F sh (M.book.times.map Prod.fst)
  bt : KInts F st (M.book.times.map Prod.snd)
  q : KTxs F sq W
  qh : KInts F qh M.queue
  tr : ∀ x ∈ xs, TrF F x.1 x.2
  all : M.all = idxF 1 (xs.map Prod.snd)
theorem RefF.more {F G : Heap → Prop} {sh st sq qh sv : SV} {xs : List (TR × Trn)} {W : List Tx} {M : Mgr} (h : RefF F sh st sq qh sv xs W M) (hg : ∀ h, G h → F h) : RefF G sh st sq qh sv xs W M :=
  ⟨h.vers.more hg, KRow.more h.bh hg, KRow.more h.bt hg, h.q.more hg, KRow.more h.qh hg, fun x hx => (h.tr x hx).more hg, h.all⟩
def rcells (bm : Nat) (ts sh st sq qh : SV) (M : Mgr) : List Value := [.pointer (some ⟨bm, 0, none⟩), .int .i64 M.book.most, slv sh, slv st, .int .i64 M.book.last, slv ts, slv sq, slv qh, .int .i64 M.out, .int .i64 M.num, .int .i64 M.given, .int .i64 M.last, .bool M.read, .int .i64 M.m.blocks, .int .i64 M.base]
abbrev mgO (p bm : Nat) (ts sh st sq qh : SV) (M : Mgr) : HP := objA (some ⟨p, 0, none⟩) (rcells bm ts sh st sq qh M)
abbrev mpO (bm : Nat) (sv : SV) (M : Mgr) : HP := objA (some ⟨bm, 0, none⟩) [.int .i64 M.m.blocks, slv sv, .int .i64 M.m.last]
def ptrOf (x : TR × Trn) : Value := .pointer (some ⟨x.1.p, 0, none⟩)
abbrev tsO (ts : SV) (xs : List (TR × Trn)) : HP := ownS 1 ts (xs.map ptrOf)
def Ref (p : Nat) (M : Mgr) (F : Heap → Prop) (R : HP) (w : World) : Prop := Mono F ∧ ∃ bm ts sh st sq qh sv xs, RefF F sh st sq qh sv xs M.waiting M ∧ St [pool F, mgO p bm ts sh st sq qh M, mpO bm sv M, tsO ts xs, Sl.all xs (trR bm), R] w
section
variable {p bm : Nat} {ts sh st sq qh sv : SV} {xs : List (TR × Trn)} {M : Mgr} {F : Heap → Prop} {R : HP} {w : World}
theorem rsplit (h : St [pool F, mgO p bm ts sh st sq qh M, mpO bm sv M, tsO ts xs, Sl.all xs (trR bm), R] w) {j : Nat} (hj : j < xs.length) :
    St [pool F, tV bm xs[j].1 xs[j].2, mpO bm sv M, tB xs[j].1 xs[j].2, tR xs[j].1, tP xs[j].1 xs[j].2, mgO p bm ts sh st sq qh M, tsO ts xs, Sl.all (xs.eraseIdx j) (trR bm), R] w := by
  refine h.to ?_
  simp only [big_cons]
  rw [all_at xs j hj]
  unfold trR
  ac_rfl
theorem rjoin {j : Nat} {A B : HP} {y : TR × Trn} (h : St [pool F, tV bm y.1 y.2, B, tB y.1 y.2, tR y.1, tP y.1 y.2, A, tsO ts xs, Sl.all (xs.eraseIdx j) (trR bm), R] w) (hj : j < xs.length) (hp : y.1.p = xs[j].1.p) : St [pool F, A, B, tsO ts (xs.set j y), Sl.all (xs.set j y) (trR bm), R] w := by
  have e : (xs.set j y).map ptrOf = xs.map ptrOf := by
    rw [List.map_set]
    have h0 : (xs.map ptrOf)[j]? = some (ptrOf y) := by
      rw [List.getElem?_map, List.getElem?_eq_getElem hj]
      simp [ptrOf, hp]
    exact set_self h0
  unfold tsO
  rw [e]
  change St [pool F, A, B, tsO ts xs, Sl.all (xs.set j y) (trR bm), R] w
  refine h.to ?_
  simp only [big_cons]
  rw [all_set xs j hj, show trR bm y = tV bm y.1 y.2 * (tB y.1 y.2 * (tR y.1 * tP y.1 y.2)) from rfl]
  ac_rfl
/-- Where a handle's transaction lies. -/
theorem at_of (hall : M.all = idxF 1 (xs.map Prod.snd)) {i : Int} {T : Trn} (h : lkp M.all i = some T) : ∃ j : Nat, ∃ hj : j < xs.length, i = (j : Int) + 1 ∧ xs[j].2 = T := by
  rw [hall, lkp_idxF] at h
  split at h
  · have hlt := lt_of_get h
    rw [List.length_map] at hlt
    refine ⟨(i - 1).toNat, hlt, by omega, ?_⟩
    rw [List.getElem?_map, List.getElem?_eq_getElem hlt] at h
    simpa using h
  · cases h
theorem lkp_at (hall : M.all = idxF 1 (xs.map Prod.snd)) {j : Nat} (hj : j < xs.length) : lkp M.all ((j : Int) + 1) = some xs[j].2 := by
  rw [hall, lkp_idxF, if_pos (by omega), show ((j : Int) + 1 - 1).toNat = j from by omega, List.getElem?_map, List.getElem?_eq_getElem hj]; rfl
theorem put_at (hall : M.all = idxF 1 (xs.map Prod.snd)) {j : Nat} (hj : j < xs.length) (x : TR × Trn) : put M.all ((j : Int) + 1) x.2 = idxF 1 ((xs.set j x).map Prod.snd) := by
  have e : ((j : Int) + 1 - 1).toNat = j := by omega
  rw [hall, put_idxF _ 1 (by omega) (by rw [e, List.length_map]; exact hj), e, List.map_set]
theorem ropen_c {i : Int} {W : List Tx} {K : Option Addr → World → Prop} (hf : RefF F sh st sq qh sv xs W M) (h : St [pool F, mgO p bm ts sh st sq qh M, mpO bm sv M, tsO ts xs, Sl.all xs (trR bm), R] w) (hn : xs.length ≤ 2 ^ 40)
    (no : M.opn i = none → K none w) (yes : ∀ (j : Nat) (hj : j < xs.length), i = (j : Int) + 1 → M.opn i = some xs[j].2 → xs[j].2.state = 1 → K (some ⟨xs[j].1.p, 0, none⟩) w) : c_scarpref23_Manager_open (some ⟨p, 0, none⟩) i w K := by
  refine scarpref23_Manager_open_go ?_
  unfold f_scarpref23_Manager_open
  have hts := st_len h 3 rfl
  rw [List.length_map] at hts
  have out : ¬ (1 ≤ i ∧ i ≤ xs.length) → M.opn i = none := fun hq => by
    unfold Mgr.opn
    cases e : lkp M.all i with
    | none => rfl
    | some T =>
      obtain ⟨j, hj, rfl, _⟩ := at_of hf.all e
      omega
  refine bsplit_decide.2 ⟨fun q => no (out (by omega)), fun q1 => ?_⟩
  rw [onP_some]
  refine ⟨ts, st_c1 h 1 rfl rfl, bsplit_decide.2 ⟨fun q => no (out (by omega)), fun q2 => ?_⟩⟩
  obtain ⟨j, rfl⟩ : ∃ j : Nat, i = (j : Int) + 1 := ⟨(i - 1).toNat, by omega⟩
  have hj : j < xs.length := by omega
  have ew : IntKind.i64.wrap ((j : Int) + 1 - 1) = (j : Int) := by rw [wrap_of (by omega) (by omega)]; omega
  have hs := rsplit h hj
  have hl := lkp_at hf.all hj
  have hop : M.opn ((j : Int) + 1) = if xs[j].2.state = 1 then some xs[j].2 else none := by unfold Mgr.opn; rw [hl]
  have cell : ∀ b : Nat, ts.a = some ⟨b, 0, none⟩ → (∀ k v, (xs.map ptrOf)[k]? = some v → w.cell? ⟨b, k, none⟩ = some v) → w.cell? ((⟨b, 0, none⟩ : Addr).add ((j : Int).toNat * 1)) = some (.pointer (some ⟨xs[j].1.p, 0, none⟩)) := fun b _ hc => by
    rw [add_mk]
    refine hc _ _ ?_
    simp only [Int.toNat_natCast, Nat.mul_one, Nat.zero_add]
    rw [List.getElem?_map, List.getElem?_eq_getElem hj]; rfl
  rw [onP_some, ew]
  refine ⟨ts, st_c1 h 1 rfl rfl, by omega, by omega, st_own h 3 rfl (by rw [List.length_map]; omega) fun b hb hc => ⟨_, cell b hb hc, ?_⟩⟩
  rw [onP_some]
  refine ⟨_, st_c0 hs 5 rfl rfl, bsplit_iff.2 ⟨fun q => no (by rw [hop, if_neg (by simpa using q)]), fun q => ?_⟩⟩
  have q' : xs[j].2.state = 1 := by simpa using q
  rw [onP_some]
  refine ⟨ts, st_c1 h 1 rfl rfl, by omega, by omega, st_own h 3 rfl (by rw [List.length_map]; omega) fun b hb hc => ⟨_, cell b hb hc, ?_⟩⟩
  exact yes j hj rfl (by rw [hop, if_pos q']) q'
end
theorem ref_new {n last : Int} {F : Heap → Prop} {R : HP} {w : World} {K : Option Addr × Int → World → Prop} (hF : Mono F) (h : St [pool F, R] w) (hn : 1 ≤ n ∧ n ≤ 1048576) (hl : 0 ≤ last ∧ last ≤ 1099511627776)
    (hk : ∀ p w', Ref p (Mgr.new n last) F R w' → K (some ⟨p, 0, none⟩, 0) w') : c_scarpref23_New n last w K := by
  refine scarpref23_New_go ?_
  unfold f_scarpref23_New
  refine scarpref11_NewMap_go ?_
  unfold f_scarpref11_NewMap
  refine bsplit_decide.2 ⟨fun q => by omega, fun _ => bsplit_decide.2 ⟨fun q => by omega, fun _ => ?_⟩⟩
  refine st_newF h fun w1 h1 => bsplit_iff.2 ⟨fun e => (by cases e), fun _ => bsplit_decide.2 ⟨fun q => by omega, fun _ => bsplit_decide.2 ⟨fun q => by omega, fun _ => ?_⟩⟩⟩
  refine st_newF h1 fun w2 h2 => hk _ w2 ⟨hF, w.heap.size, ⟨none, 0, 0⟩, ⟨none, 0, 0⟩, ⟨none, 0, 0⟩, ⟨none, 0, 0⟩, ⟨none, 0, 0⟩, ⟨none, 0, 0⟩, [], ?_, ?_⟩
  · have e : flatV (Mgr.new n last).m = [] := by simp [flatV, sortI, Mgr.new]
    exact ⟨by rw [e]; exact KVers.nil, KRow.nil, KRow.nil, KTxs.nil, KRow.nil, fun x hx => by simp at hx, rfl⟩
  · have h3 := st_nilF 1 h2
    refine h3.to ?_
    simp only [big_cons, Sl.all, mpO, mgO, tsO, Mgr.new, rcells, List.map_nil]
    show _ * (_ * (_ * (_ * (_ * bigS [])))) = _ * (_ * (_ * (_ * (1 * (_ * bigS [])))))
    rw [one_mul' (R * bigS [])]
    ac_rfl
end Go.Proofs.YtbolgpjcmchfoaaGreat
