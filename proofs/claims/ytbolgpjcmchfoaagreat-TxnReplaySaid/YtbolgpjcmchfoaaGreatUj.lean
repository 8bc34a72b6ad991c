/- The reference's book opens; its views read. -/
import Derived.Test.YtbolgpjcmchfoaaGreatUi
namespace Go.Proofs.YtbolgpjcmchfoaaGreat
open Go Go.Vc Go.Sl Go.Mo
theorem rbook_open {b o : Nat} {cs : List Value} {B : Book} {at_ : Int} {sh st : SV} {F : Heap → Prop} {r : List HP} {w : World} {K : Int × Int → World → Prop} (hF : Mono F) (h : St (pool F :: r) w) (i : Nat) (hi : r[i]? = some (objA (some ⟨b, 0, none⟩) cs)) (h0 : cs[o]? = some (.int .i64 B.most)) (h1 : cs[o + 1]? = some (slv sh)) (h2 : cs[o + 2]? = some (slv st)) (h3 : cs[o + 3]? = some (.int .i64 B.last))
    (k1 : KInts F sh (B.times.map Prod.fst)) (k2 : KInts F st (B.times.map Prod.snd)) (hn : B.times.length ≤ 2 ^ 30) (hl : 0 ≤ B.last ∧ B.last ≤ 2 ^ 40) (hnew : lkp B.times (B.last + 1) = none)
    (hk : ∀ F' sh' st' w', Mono F' → (∀ h, F' h → F h) → KInts F' sh' ((B.open at_).1.times.map Prod.fst) → KInts F' st' ((B.open at_).1.times.map Prod.snd) → St (pool F' :: r.set i (objA (some ⟨b, 0, none⟩) (((cs.set (o + 3) (.int .i64 (B.open at_).1.last)).set (o + 1) (slv sh')).set (o + 2) (slv st')))) w' → K (B.open at_).2 w') : c_scarpref11_Book_Open (some ⟨b, o, none⟩) at_ w K := by
  refine scarpref11_Book_Open_go ?_
  unfold f_scarpref11_Book_Open
  have ei : (pool F :: r)[i + 1]? = some (objA (some ⟨b, 0, none⟩) cs) := by simpa using hi
  have n1 := KInts.n k1
  have n2 := KInts.n k2
  rw [List.length_map] at n1 n2
  have fin : ∀ w' c, St (pool F :: r) w' → B.open at_ = (B, c) → K c w' := fun w' c h' q => by
    rw [q] at hk
    refine hk F sh st w' hF (fun _ h => h) k1 k2 ?_
    rw [set_self h3, set_self h1, set_self h2, set_self hi]; exact h'
  refine bsplit_decide.2 ⟨fun q => fin _ _ h (by unfold Book.open; rw [if_pos (.inl q)]), fun q1 => bsplit_decide.2 ⟨fun q => fin _ _ h (by unfold Book.open; rw [if_pos (.inr q)]), fun q2 => st_drew h fun w1 g1 => ?_⟩⟩
  rw [onP_some]
  refine ⟨sh, st_c1 g1 (i + 1) ei h1, ?_⟩
  rw [onP_some]
  refine ⟨_, st_c0 g1 (i + 1) ei h0, bsplit_decide.2 ⟨fun q => fin _ _ g1 (by unfold Book.open; rw [if_neg (by omega), if_pos (by omega)]), fun q3 => ?_⟩⟩
  have hop : B.open at_ = ({ B with last := B.last + 1, times := put B.times (B.last + 1) at_ }, (B.last + 1, 0)) := by
    unfold Book.open; rw [if_neg (by omega), if_neg (by omega)]
  rw [hop, put_new hnew] at hk
  clear fin hop
  rw [onP_some]
  refine ⟨_, st_c1 g1 (i + 1) ei h3, ?_⟩
  rw [onP_some, wrap_of (by omega) (by omega)]
  refine st_s1 g1 (i + 1) ei (lt_of_get h3) fun w9 g9 => st_drew g9 fun w11 g11 => ?_
  have g11' : St (pool F :: r.set i (objA (some ⟨b, 0, none⟩) (cs.set (o + 3) (.int .i64 (B.last + 1))))) w11 := by
    simpa only [List.set_cons_succ] using g11
  clear g9 g11
  generalize hcs : cs.set (o + 3) (.int .i64 (B.last + 1)) = cs1 at *
  have m1 : cs1[o + 1]? = some (slv sh) := by rw [← hcs, List.getElem?_set_ne (by omega)]; exact h1
  have m2 : cs1[o + 2]? = some (slv st) := by rw [← hcs, List.getElem?_set_ne (by omega)]; exact h2
  have m3 : cs1[o + 3]? = some (.int .i64 (B.last + 1)) := by rw [← hcs, List.getElem?_set_self (lt_of_get h3)]
  have hri : ∀ x, (r.set i x)[i]? = some x := fun x => List.getElem?_set_self (lt_of_get hi)
  have hset : ∀ x y, (r.set i x).set i y = r.set i y := fun x y => List.set_set ..
  have row1 : ∀ {w' : World}, F (hp w') → rowOn (hp w') sh ((B.times.map Prod.fst).map intv) := fun h => KRow.on k1 _ h
  have row2 : ∀ {w' : World}, F (hp w') → rowOn (hp w') st ((B.times.map Prod.snd).map intv) := fun h => KRow.on k2 _ h
  have one1 : ∀ l : List Int, (l.map intv).all Vc.one = true := fun l => by
    rw [List.all_eq_true]; intro x hx; obtain ⟨n, _, rfl⟩ := List.mem_map.1 hx; rfl
  have hS : ∀ {w' : World} {l : List HP}, St (l ++ (pool F :: r.set i (objA (some ⟨b, 0, none⟩) cs1))) w' → w'.cell? ((⟨b, o, none⟩ : Addr).add 1) = some (.slice sh.a sh.n sh.c) ∧ w'.cell? ((⟨b, o, none⟩ : Addr).add 3) = some (.int .i64 (B.last + 1)) := fun {w' l} h => by
    have e : (l ++ (pool F :: r.set i (objA (some ⟨b, 0, none⟩) cs1)))[l.length + (i + 1)]? = some (objA (some ⟨b, 0, none⟩) cs1) := by
      rw [List.getElem?_append_right (by omega)]
      simp only [Nat.add_sub_cancel_left, List.getElem?_cons_succ]; exact hri _
    exact ⟨st_c1 h _ e m1, st_c1 h _ e m3⟩
  -- what comes behind the first row
  have tail : ∀ (w21 w20 : World) (s19 : SV), s19.n = B.times.length → St (objA (some ⟨w20.heap.size, 0, none⟩) [.int .i64 (B.last + 1)] :: ownS 1 s19 ((B.times.map Prod.fst).map intv) :: pool F :: r.set i (objA (some ⟨b, 0, none⟩) cs1)) w21 →
      f_scarpref11_Book_Open_p2 (fun w' => w'.cell? ((⟨b, o, none⟩ : Addr).add 1) = some (.slice sh.a sh.n sh.c) ∧ w'.cell? ((⟨b, o, none⟩ : Addr).add 3) = some (.int .i64 (B.last + 1))) w21 s19 w20 (some ⟨b, o, none⟩) at_ K := fun w21 w20 s19 ns h21 => by
    unfold f_scarpref11_Book_Open_p2
    refine ⟨hS (l := [_, _]) h21, st_push h21 1 rfl 0 rfl rfl rfl (by omega) (by omega) rfl fun s22 w23 _ h23 => ⟨hS (l := [_, _]) h23, ?_⟩⟩
    have h24 : St (ownS 1 s22 ((B.times.map Prod.fst).map intv ++ [.int .i64 (B.last + 1)]) :: pool F :: r.set i (objA (some ⟨b, 0, none⟩) cs1)) w23 := h23.cut 0 (by simp)
    clear h23
    rw [onP_some]
    refine st_s1 h24 (i + 2) (by simp only [List.getElem?_cons_succ]; exact hri _) (lt_of_get m1) fun w25 h25 => ?_
    have h25' : St (ownS 1 s22 ((B.times.map Prod.fst).map intv ++ [.int .i64 (B.last + 1)]) :: pool F :: r.set i (objA (some ⟨b, 0, none⟩) (cs1.set (o + 1) (slv s22)))) w25 := by
      simp only [List.set_cons_succ, hset] at h25; exact h25
    clear h25
    have m2' : (cs1.set (o + 1) (slv s22))[o + 2]? = some (slv st) := by rw [List.getElem?_set_ne (by omega)]; exact m2
    refine st_emptyF 1 h25' fun w26 h26 => ?_
    rw [onP_some]
    refine ⟨st, st_c1 h26 (i + 3) (by simp only [List.getElem?_cons_succ]; exact hri _) m2', ?_⟩
    refine st_append h26 0 rfl (row2 (st_pool hF h26 2 rfl)) (by rw [List.length_map, List.length_map]; omega) (by omega) (one1 _) (by simp only; omega) (by omega) rfl fun s29 w30 n29 h30 => st_newF h30 fun w31 h31 => ?_
    have n29' : s29.n = B.times.length := by rw [n29, n2]; simp
    refine st_push h31 1 rfl 0 rfl rfl rfl (by omega) (by omega) rfl fun s32 w33 _ h33 => ?_
    have h34 : St (ownS 1 s32 ((B.times.map Prod.snd).map intv ++ [.int .i64 at_]) :: ownS 1 s22 ((B.times.map Prod.fst).map intv ++ [.int .i64 (B.last + 1)]) :: pool F :: r.set i (objA (some ⟨b, 0, none⟩) (cs1.set (o + 1) (slv s22)))) w33 := h33.cut 0 (by simp)
    clear h33
    rw [onP_some]
    refine st_s1 h34 (i + 3) (by simp only [List.getElem?_cons_succ]; exact hri _) (by rw [List.length_set]; exact lt_of_get m2) fun w35 h35 => ?_
    have h36 : St (ownS 1 s32 ((B.times.map Prod.snd).map intv ++ [.int .i64 at_]) :: ownS 1 s22 ((B.times.map Prod.fst).map intv ++ [.int .i64 (B.last + 1)]) :: pool F :: r.set i (objA (some ⟨b, 0, none⟩) ((cs1.set (o + 1) (slv s22)).set (o + 2) (slv s32)))) w35 := by
      simp only [List.set_cons_succ, hset] at h35; exact h35
    clear h35
    rw [onP_some]
    refine ⟨_, st_c1 h36 (i + 3) (by simp only [List.getElem?_cons_succ]; exact hri _) (by rw [List.getElem?_set_ne (by omega), List.getElem?_set_ne (by omega)]; exact m3), ?_⟩
    obtain ⟨F2, f1, f2, f3, f4⟩ := freeze hF (st_swap12 h36)
    obtain ⟨F3, e1, e2, e3, e4⟩ := freeze f1 (st_swap01 f4)
    refine hk F3 s22 s32 w35 e1 (fun h hh => f2 _ (e2 _ hh)) ?_ ?_ e4
    · show KInts F3 s22 ((B.times ++ [(B.last + 1, at_)]).map Prod.fst)
      rw [List.map_append, KInts, List.map_append]; exact e3
    · show KInts F3 s32 ((B.times ++ [(B.last + 1, at_)]).map Prod.snd)
      rw [List.map_append, KInts, List.map_append]; exact KRow.more f3 e2
  have hlen : ((B.times.map Prod.fst).map intv).length = sh.n * 1 := by rw [List.length_map, List.length_map]; omega
  refine ⟨fun w' => w'.cell? ((⟨b, o, none⟩ : Addr).add 1) = some (.slice sh.a sh.n sh.c) ∧ w'.cell? ((⟨b, o, none⟩ : Addr).add 3) = some (.int .i64 (B.last + 1)), hS (l := []) g11', ?_⟩
  rw [onP_some]
  refine ⟨sh, fun _ h => h.1, ?_⟩
  rw [onP_some]
  refine ⟨_, fun _ h => h.2, st_emptyF 1 g11' fun w18 h18 => ⟨hS (l := [_]) h18, ?_, ?_⟩, st_newF g11' fun w57 h57 => ⟨hS (l := [_]) h57, ?_⟩⟩
  · refine st_append h18 0 rfl (row1 (st_pool hF h18 1 rfl)) hlen (by omega) (one1 _) (by simp only; omega) (by omega) rfl fun s19 w20 n19 h20 => ⟨hS (l := [_]) h20, st_newF h20 fun w21 h21 => tail w21 w20 s19 (by rw [n19, n1]; simp) h21⟩
  · refine st_newF h18 fun w38 h38 => ?_
    unfold f_scarpref11_Book_Open_p1
    refine ⟨hS (l := [_, _]) h38, st_append h38 1 rfl (row1 (st_pool hF h38 2 rfl)) hlen (by omega) (one1 _) (by simp only; omega) (by omega) rfl fun s39 w40 n39 h40 => tail w40 w18 s39 (by rw [n39, n1]; simp) h40⟩
  · refine st_emptyF 1 h57 fun w58 h58 => ?_
    unfold f_scarpref11_Book_Open_p1
    refine ⟨hS (l := [_, _]) h58, st_append h58 0 rfl (row1 (st_pool hF h58 2 rfl)) hlen (by omega) (one1 _) (by simp only; omega) (by omega) rfl fun s39 w40 n39 h40 => tail w40 w11 s39 (by rw [n39, n1]; simp) (st_swap01 h40)⟩
/-! ### Reads -/
def rdC (x : SV × Rd) : List Value := [.int .i64 x.2.lba, slv x.1, .bool x.2.own]
theorem rdC_snoc (ys : List (SV × Rd)) (d : SV) (x : Rd) : ys.flatMap rdC ++ [.int .i64 x.lba, .slice d.a d.n d.c, .bool x.own] = (ys ++ [(d, x)]).flatMap rdC := by simp [rdC, slv]
theorem rdC_len (ys : List (SV × Rd)) : (ys.flatMap rdC).length = ys.length * 3 := flat_len (C := rdC) (fun _ => rfl) ys
theorem seen_lba (M : XMap) (B : Buf) (t k : Int) : (seenB M B t k).lba = k := by unfold seenB; split <;> rfl
theorem byteRow_snoc {s b : SV} {l m : List UInt8} {e : Nat} {L : List HP} {w : World} {K : SV → World → Prop} (h : St L w) (i : Nat) (hi : L[i]? = some (byteRow s l)) (hb : bytesOn (hp w) b m) (hl : s.n ≤ 2 ^ 36) (hm : m.length ≤ 2 ^ 36)
    (hk : ∀ s' w', s'.n = s.n + b.n → St (L.set i (byteRow s' (l ++ m))) w' → K s' w') : appendR s b 1 1 [.int .u8 0] e w K := by
  have hbn := hb.1
  refine st_append h i hi hb.2 (by simp [bytesV, hbn]) (by omega) (by simp [bytesV, Vc.one]) (by omega) (by omega) rfl fun s' w' hn h' => hk s' w' hn ?_
  have e : bytesV l ++ bytesV m = bytesV (l ++ m) := by simp [bytesV]
  rw [e] at h'; exact h'
set_option maxHeartbeats 1000000 in
theorem rview_read {v bm bb : Nat} {n' mo la : Int} {V : View} {M : XMap} {B : Buf} {e : Ext} {sl sv bl rs : SV} {ys : List (SV × Rd)} {F : Heap → Prop} {r : List HP} {w : World} {K : SV × Int → World → Prop} (hF : Mono F)
    (h : St (pool F :: objA (some ⟨v, 0, none⟩) [.pointer (some ⟨bm, 0, none⟩), .pointer (some ⟨bb, 0, none⟩), .int .i64 V.at_, .int .i64 64, slv sl, slv rs] :: objA (some ⟨bm, 0, none⟩) [.int .i64 M.blocks, slv sv, .int .i64 la] :: objA (some ⟨bb, 0, none⟩) [.int .i64 n', .int .i64 mo, slv bl] :: ownS 3 rs (ys.flatMap rdC) :: r) w)
    (hsl : KExts F sl V.set.l) (h64 : V.set.most = 64) (hsln : V.set.l.length ≤ 64) (ok : ∀ x ∈ V.set.l, okX x) (nf : NF V.set.l) (hv : KVers F sv (flatV M)) (vo : VOk M) (hMb : 1 ≤ M.blocks ∧ M.blocks ≤ 1048576) (hL : (flatV M).length ≤ 2 ^ 36) (h40 : ∀ k t, (M.get k t).length = 40)
    (hb : KPuts F bl B.puts) (hbn : B.data.length ≤ 2 ^ 20) (hb40 : ∀ q ∈ B.data, q.2.length = 40) (hys : ys.map Prod.snd = V.reads) (hyk : ∀ y ∈ ys, Known F (y.1, y.2.data)) (hyn : ys.length ≤ 2 ^ 30)
    (hk : ∀ (F' : Heap → Prop) (sl' rs' : SV) (ys' : List (SV × Rd)) (out : SV) (w' : World), Mono F' → (∀ h, F' h → F h) → KExts F' sl' (V.read M B e).1.set.l → ys'.map Prod.snd = (V.read M B e).1.reads → (∀ y ∈ ys', Known F' (y.1, y.2.data)) →
      St (byteRow out (V.read M B e).2.1 :: pool F' :: objA (some ⟨v, 0, none⟩) [.pointer (some ⟨bm, 0, none⟩), .pointer (some ⟨bb, 0, none⟩), .int .i64 V.at_, .int .i64 64, slv sl', slv rs'] :: objA (some ⟨bm, 0, none⟩) [.int .i64 M.blocks, slv sv, .int .i64 la] :: objA (some ⟨bb, 0, none⟩) [.int .i64 n', .int .i64 mo, slv bl] :: ownS 3 rs' (ys'.flatMap rdC) :: r) w' → K (out, (V.read M B e).2.2) w') : c_scarpref11_View_Read (some ⟨v, 0, none⟩) e.first e.len w K := by
  refine scarpref11_View_Read_go ?_
  unfold f_scarpref11_View_Read
  have fin : ∀ w' c, St (pool F :: objA (some ⟨v, 0, none⟩) [.pointer (some ⟨bm, 0, none⟩), .pointer (some ⟨bb, 0, none⟩), .int .i64 V.at_, .int .i64 64, slv sl, slv rs] :: objA (some ⟨bm, 0, none⟩) [.int .i64 M.blocks, slv sv, .int .i64 la] :: objA (some ⟨bb, 0, none⟩) [.int .i64 n', .int .i64 mo, slv bl] :: ownS 3 rs (ys.flatMap rdC) :: r) w' →
      V.read M B e = (V, ([], c)) → K (⟨none, 0, 0⟩, c) w' := fun w' c h' q => by
    rw [q] at hk
    exact hk F sl rs ys ⟨none, 0, 0⟩ w' hF (fun _ h => h) hsl hys hyk (st_nilF 1 h')
  refine st_newF h fun w1 h1 => ⟨_, st_c1 h1 0 rfl rfl, bsplit_decide.2 ⟨fun q => fin _ _ (h1.cut 0 (by simp)) (by unfold View.read; rw [if_pos (.inl q)]), fun q1 => ⟨_, st_c1 h1 0 rfl rfl, bsplit_decide.2 ⟨fun q => fin _ _ (h1.cut 0 (by simp)) (by unfold View.read; rw [if_pos (.inr q)]), fun q2 => st_drew h1 fun w5 h5 => ?_⟩⟩⟩⟩
  refine ⟨St (objA (some ⟨w.heap.size, 0, none⟩) [.int .i64 e.first, .int .i64 e.len] :: pool F :: objA (some ⟨v, 0, none⟩) [.pointer (some ⟨bm, 0, none⟩), .pointer (some ⟨bb, 0, none⟩), .int .i64 V.at_, .int .i64 64, slv sl, slv rs] :: objA (some ⟨bm, 0, none⟩) [.int .i64 M.blocks, slv sv, .int .i64 la] :: objA (some ⟨bb, 0, none⟩) [.int .i64 n', .int .i64 mo, slv bl] :: ownS 3 rs (ys.flatMap rdC) :: r), h5, ?_⟩
  rw [onP_some]
  refine ⟨_, fun _ h => st_c0 h 2 rfl rfl, (e.first, e.len), fun _ h => ⟨st_c0 h 0 rfl rfl, st_c1 h 0 rfl rfl⟩, rin_c (e := e) (st_swap01 h5) 2 rfl hMb fun w12 h12 => ⟨st_swap01 h12, ?_⟩⟩
  have qe : ¬ (e.len < 1 ∨ 16 < e.len) := by omega
  refine bsplit_iff.2 ⟨fun q => fin _ _ (h12.cut 1 (by simp)) (by unfold View.read; rw [if_neg qe, if_pos]; have : (!within M e) = true := q; simpa using this), fun q => st_drew h12 fun w14 h14 => ?_⟩
  have qw : ¬ within M e = false := by have : (!within M e) = false := q; simpa using this
  refine ⟨fun w' => w'.cell? ⟨w.heap.size, 0, none⟩ = some (.int .i64 e.first) ∧ w'.cell? ((⟨w.heap.size, 0, none⟩ : Addr).add 1) = some (.int .i64 e.len), ⟨st_c0 h14 1 rfl rfl, st_c1 h14 1 rfl rfl⟩, ?_⟩
  rw [onP_some]
  refine ⟨(e.first, e.len), fun _ h => h, st_newF h14 fun w18 h18 => ⟨⟨st_c0 h18 2 rfl rfl, st_c1 h18 2 rfl rfl⟩, ?_⟩⟩
  rw [add_mk]
  have hmost : (64 : Int) = V.set.most := h64.symm
  refine rset_add (b := v) (o := 3) (S := V.set) (s := sl) (e := e) hF (st_swap01 h18) 2 rfl (by rw [← hmost]; rfl) rfl hsl (by omega) (by omega) ok nf 0 rfl fun F1 sl1 w20 f1 f2 f3 h20 => ?_
  have h21 : St (pool F1 :: objA (some ⟨w.heap.size, 0, none⟩) [.int .i64 e.first, .int .i64 e.len] :: objA (some ⟨v, 0, none⟩) [.pointer (some ⟨bm, 0, none⟩), .pointer (some ⟨bb, 0, none⟩), .int .i64 V.at_, .int .i64 64, slv sl1, slv rs] :: objA (some ⟨bm, 0, none⟩) [.int .i64 M.blocks, slv sv, .int .i64 la] :: objA (some ⟨bb, 0, none⟩) [.int .i64 n', .int .i64 mo, slv bl] :: ownS 3 rs (ys.flatMap rdC) :: r) w20 := h20.cut 1 (by simp)
  clear h20 h18 h14
  refine ⟨⟨st_c0 h21 1 rfl rfl, st_c1 h21 1 rfl rfl⟩, bsplit_iff.2 ⟨fun qa => ?_, fun qa => ?_⟩⟩
  · have qa' : (V.set.add [e]).2 ≠ 0 := by simpa using qa
    have hv7 : V.read M B e = (V, ([], 7)) := by unfold View.read; rw [if_neg qe, if_neg qw, if_pos qa']
    rw [hv7] at hk
    have hS : (V.set.add [e]).1 = V.set := by
      unfold XSet.add at qa' ⊢
      repeat' split
      all_goals first | rfl | skip
      rename_i a b c
      rw [if_neg a, if_neg b, if_neg c] at qa'
      exact absurd rfl qa'
    rw [hS] at f3
    exact hk F1 sl1 rs ys ⟨none, 0, 0⟩ w20 f1 f2 f3 hys (fun y hy g hg => hyk y hy g (f2 _ hg)) (st_nilF 1 (h21.cut 1 (by simp)))
  have qa' : ¬ (V.set.add [e]).2 ≠ 0 := by simpa using qa
  have hrd : V.read M B e = ({ V with set := (V.set.add [e]).1, reads := V.reads ++ (blocksOf e).map (seenB M B V.at_) }, ((blocksOf e).flatMap fun k => (seenB M B V.at_ k).data, 0)) := by
    unfold View.read; rw [if_neg qe, if_neg qw, if_neg qa']
  rw [hrd] at hk
  clear hrd fin
  have hw' : 0 ≤ e.first ∧ e.first + e.len ≤ M.blocks := by
    unfold within at qw
    simp only [Bool.and_eq_false_iff, decide_eq_false_iff_not] at qw
    omega
  have hbl : (blocksOf e).length = e.len.toNat := by unfold blocksOf; rw [List.length_map, List.length_range]
  have hbg : ∀ i (hi : i < (blocksOf e).length), (blocksOf e)[i] = e.first + (i : Int) := fun i hi => by simp [blocksOf]
  have hs40 : ∀ k, (seenB M B V.at_ k).data.length = 40 := fun k => by
    unfold seenB
    split
    · rename_i d hd; exact hb40 _ (lkp_mem hd)
    · exact h40 _ _
  generalize blocksOf e = ks at *
  have hpl := puts_length B
  refine loop_i (fun (x : SV × Int) w' => ∃ i : Nat, x.2 = (i : Int) ∧ i ≤ ks.length ∧ ∃ (F' : Heap → Prop) (rs' : SV) (ys' : List (SV × Rd)), Mono F' ∧ (∀ h, F' h → F1 h) ∧ ys'.map Prod.snd = V.reads ++ (ks.take i).map (seenB M B V.at_) ∧ (∀ y ∈ ys', Known F' (y.1, y.2.data)) ∧ x.1.n = 40 * i ∧
    St (byteRow x.1 ((ks.take i).flatMap fun k => (seenB M B V.at_ k).data) :: pool F' :: objA (some ⟨w.heap.size, 0, none⟩) [.int .i64 e.first, .int .i64 e.len] :: objA (some ⟨v, 0, none⟩) [.pointer (some ⟨bm, 0, none⟩), .pointer (some ⟨bb, 0, none⟩), .int .i64 V.at_, .int .i64 64, slv sl1, slv rs'] :: objA (some ⟨bm, 0, none⟩) [.int .i64 M.blocks, slv sv, .int .i64 la] :: objA (some ⟨bb, 0, none⟩) [.int .i64 n', .int .i64 mo, slv bl] :: ownS 3 rs' (ys'.flatMap rdC) :: r) w') (fun x _ => ks.length - x.2.toNat)
    ⟨0, rfl, by omega, F1, rs, ys, f1, fun _ h => h, by simpa using hys, fun y hy g hg => hyk y hy g (f2 _ hg), rfl, st_nilF 1 h21⟩ ?_
  rintro ⟨out, x⟩ w22 ⟨i, hx, hi, F', rs', ys', g1, g2, hys', hyk', hon, h22⟩
  simp only at hx hon h22; subst hx
  dsimp only
  refine ⟨_, st_c1 h22 2 rfl rfl, bsplit_decide.2 ⟨fun hlt => ?_, fun hge => ?_⟩⟩
  · have hlt' : i < ks.length := by omega
    have hki := hbg i hlt'
    have e1 := inc_of hlt' (by omega)
    have ew : IntKind.i64.wrap (e.first + (i : Int)) = ks[i] := by rw [wrap_of (by omega) (by omega), hki]
    have htk := List.take_succ_eq_append_getElem hlt'
    have hyl : ys'.length ≤ 2 ^ 30 + 2 ^ 20 := by
      have h1 := congrArg List.length hys'
      have h2 := congrArg List.length hys
      simp only [List.length_map, List.length_append, List.length_take] at h1 h2; omega
    have fF : ∀ {g}, F' g → F g := fun hg => f2 _ (g2 _ hg)
    -- what is done with a block's bytes
    have body : ∀ (d : SV) (F2 : Heap → Prop) (w47 : World), Mono F2 → (∀ g, F2 g → F' g) → Known F2 (d, (seenB M B V.at_ ks[i]).data) →
        St (byteRow out ((ks.take i).flatMap fun k => (seenB M B V.at_ k).data) :: pool F2 :: objA (some ⟨w.heap.size, 0, none⟩) [.int .i64 e.first, .int .i64 e.len] :: objA (some ⟨v, 0, none⟩) [.pointer (some ⟨bm, 0, none⟩), .pointer (some ⟨bb, 0, none⟩), .int .i64 V.at_, .int .i64 64, slv sl1, slv rs'] :: objA (some ⟨bm, 0, none⟩) [.int .i64 M.blocks, slv sv, .int .i64 la] :: objA (some ⟨bb, 0, none⟩) [.int .i64 n', .int .i64 mo, slv bl] :: ownS 3 rs' (ys'.flatMap rdC) :: r) w47 →
        ∃ S46 : World → Prop, S46 w47 ∧ (onP (some ⟨v, 0, none⟩) fun p48 => (∃ s49 : SV, ((∀ w50, S46 w50 → w50.cell? (p48.add 5) = some (.slice s49.a s49.n s49.c))) ∧ (∃ n51 : Int, ((∀ w52, S46 w52 → w52.cell? (⟨w.heap.size, 0, none⟩ : Addr) = some (.int .i64 n51))) ∧
          (withW (w47.alloc (.cells #[] 5)) fun w53 => (S46 w53 ∧ (appendR (⟨(some (⟨w47.heap.size, 0, none⟩ : Addr)), 0, 0⟩) d 1 1 [.int .u8 0] 5 w53 fun (s54 : SV) w55 => (S46 w55 ∧ (withW (w55.alloc (.cells #[.int .i64 (IntKind.i64.wrap (n51 + (i : Int))), .slice s54.a s54.n s54.c, .bool (seenB M B V.at_ ks[i]).own] 76)) fun w56 => (S46 w56 ∧
            (appendR s49 (⟨(some (⟨w55.heap.size, 0, none⟩ : Addr)), 1, 1⟩) 3 40 [.int .i64 0, .slice none 0 0, .bool false] 76 w56 fun (s57 : SV) w58 => (S46 w58 ∧ (onP (some ⟨v, 0, none⟩) fun p59 => ((((∃ u, w58.cell? (p59.add 5) = some u) ∧ w58.frozen? (p59.add 5) = false)) ∧ (true = true) ∧ (withW (w58.setCell (p59.add 5) (.slice s57.a s57.n s57.c)) fun w60 =>
              (appendR out d 1 1 [.int .u8 0] 5 w60 fun (s61 : SV) w62 => (∃ i_1 : Nat, IntKind.i64.wrap ((i : Int) + 1) = (i_1 : Int) ∧ i_1 ≤ ks.length ∧ ∃ (F' : Heap → Prop) (rs' : SV) (ys' : List (SV × Rd)), Mono F' ∧ (∀ h, F' h → F1 h) ∧ ys'.map Prod.snd = V.reads ++ (ks.take i_1).map (seenB M B V.at_) ∧ (∀ y ∈ ys', Known F' (y.1, y.2.data)) ∧ s61.n = 40 * i_1 ∧
                St (byteRow s61 ((ks.take i_1).flatMap fun k => (seenB M B V.at_ k).data) :: pool F' :: objA (some ⟨w.heap.size, 0, none⟩) [.int .i64 e.first, .int .i64 e.len] :: objA (some ⟨v, 0, none⟩) [.pointer (some ⟨bm, 0, none⟩), .pointer (some ⟨bb, 0, none⟩), .int .i64 V.at_, .int .i64 64, slv sl1, slv rs'] :: objA (some ⟨bm, 0, none⟩) [.int .i64 M.blocks, slv sv, .int .i64 la] :: objA (some ⟨bb, 0, none⟩) [.int .i64 n', .int .i64 mo, slv bl] :: ownS 3 rs' (ys'.flatMap rdC) :: r) w62) ∧
                ks.length - (IntKind.i64.wrap ((i : Int) + 1)).toNat < ks.length - (i : Int).toNat))))))))))))))) := by
      intro d F2 w47 k1 k2 hd h47
      have hol := st_len h47 6 rfl
      rw [rdC_len] at hol
      have hdn : d.n = 40 := by rw [(hd _ (st_pool k1 h47 1 rfl)).1]; exact hs40 _
      refine ⟨fun w' => w'.cell? ((⟨v, 0, none⟩ : Addr).add 5) = some (.slice rs'.a rs'.n rs'.c) ∧ w'.cell? ⟨w.heap.size, 0, none⟩ = some (.int .i64 e.first), ⟨st_c1 h47 3 rfl rfl, st_c0 h47 2 rfl rfl⟩, ?_⟩
      rw [onP_some]
      refine ⟨rs', fun _ h => h.1, _, fun _ h => h.2, st_emptyF 1 h47 fun w53 h53 => ⟨⟨st_c1 h53 4 rfl rfl, st_c0 h53 3 rfl rfl⟩, ?_⟩⟩
      refine byteRow_snoc (l := []) h53 0 rfl (hd _ (st_pool k1 h53 2 rfl)) (by simp) (by rw [hs40]; omega) fun s54 w55 _ h55 => ⟨⟨st_c1 h55 4 rfl rfl, st_c0 h55 3 rfl rfl⟩, ?_⟩
      rw [ew]
      refine st_newF h55 fun w56 h56 => ⟨⟨st_c1 h56 5 rfl rfl, st_c0 h56 4 rfl rfl⟩, st_push h56 8 rfl 0 rfl rfl rfl (by omega) (by omega) rfl fun s57 w58 _ h58 => ⟨⟨st_c1 h58 5 rfl rfl, st_c0 h58 4 rfl rfl⟩, ?_⟩⟩
      rw [onP_some]
      refine st_s1 h58 5 rfl (by simp) fun w60 h60 => ?_
      refine byteRow_snoc h60 2 rfl (hd _ (st_pool k1 h60 3 rfl)) (by omega) (by rw [hs40]; omega) fun s61 w62 hn61 h62 => ?_
      have h63 : St (byteRow s54 (seenB M B V.at_ ks[i]).data :: byteRow s61 (((ks.take i).flatMap fun k => (seenB M B V.at_ k).data) ++ (seenB M B V.at_ ks[i]).data) :: pool F2 :: objA (some ⟨w.heap.size, 0, none⟩) [.int .i64 e.first, .int .i64 e.len] :: objA (some ⟨v, 0, none⟩) [.pointer (some ⟨bm, 0, none⟩), .pointer (some ⟨bb, 0, none⟩), .int .i64 V.at_, .int .i64 64, slv sl1, slv s57] :: objA (some ⟨bm, 0, none⟩) [.int .i64 M.blocks, slv sv, .int .i64 la] :: objA (some ⟨bb, 0, none⟩) [.int .i64 n', .int .i64 mo, slv bl] ::
          ownS 3 s57 (ys'.flatMap rdC ++ [.int .i64 ks[i], .slice s54.a s54.n s54.c, .bool (seenB M B V.at_ ks[i]).own]) :: r) w62 := h62.cut 0 (by simp)
      have hrc := rdC_snoc ys' s54 (seenB M B V.at_ ks[i])
      rw [seen_lba] at hrc
      rw [hrc] at h63
      obtain ⟨F3, m1, m2, m3, m4⟩ := freezeB k1 (st_swap12 h63)
      refine ⟨⟨i + 1, e1, by omega, F3, s57, ys' ++ [(s54, seenB M B V.at_ ks[i])], m1, fun h hh => g2 _ (k2 _ (m2 _ hh)), ?_, fun y hy => ?_, ?_, ?_⟩, by simp only [e1]; omega⟩
      · rw [List.map_append, hys', htk, List.map_append, List.append_assoc]; rfl
      · rcases List.mem_append.1 hy with q | q
        · exact fun g hg => hyk' y q g (k2 _ (m2 _ hg))
        · obtain rfl : y = (s54, seenB M B V.at_ ks[i]) := by simpa using q
          exact m3
      · rw [hn61, hon, hdn]; omega
      · rw [htk, List.flatMap_append]
        simp only [List.flatMap_cons, List.flatMap_nil, List.append_nil]
        exact st_swap01 m4
    refine st_drew h22 fun w26 h26 => ⟨fun w' => w'.cell? ((⟨v, 0, none⟩ : Addr).add 1) = some (.pointer (some ⟨bb, 0, none⟩)) ∧ w'.cell? ⟨w.heap.size, 0, none⟩ = some (.int .i64 e.first), ⟨st_c1 h26 3 rfl rfl, st_c0 h26 2 rfl rfl⟩, ?_⟩
    rw [onP_some]
    refine ⟨_, fun _ h => h.1, _, fun _ h => h.2, ?_⟩
    rw [ew]
    refine rbuf_get (st_c0 h26 5 rfl rfl) (hb.more fun _ h => fF h) (st_pool g1 h26 1 rfl) (by omega) (fun hno => ⟨⟨st_c1 h26 3 rfl rfl, st_c0 h26 2 rfl rfl⟩, bsplit_iff.2 ⟨fun _ => ?_, fun q => (by cases q)⟩⟩) fun d p hp hpe hd => ⟨⟨st_c1 h26 3 rfl rfl, st_c0 h26 2 rfl rfl⟩, bsplit_iff.2 ⟨fun q => (by cases q), fun _ => ?_⟩⟩
    · have hl0 : lkp B.data ks[i] = none := by
        cases q : lkp B.data ks[i] with
        | none => rfl
        | some u => exact absurd rfl (hno ⟨ks[i], u⟩ (by cases B; exact mem_puts.2 q))
      have hsn : seenB M B V.at_ ks[i] = ⟨ks[i], M.get ks[i] V.at_, false⟩ := by unfold seenB; rw [hl0]
      refine st_drew h26 fun w35 h35 => ⟨fun w' => w'.cell? ⟨v, 0, none⟩ = some (.pointer (some ⟨bm, 0, none⟩)) ∧ w'.cell? ⟨w.heap.size, 0, none⟩ = some (.int .i64 e.first) ∧ w'.cell? ((⟨v, 0, none⟩ : Addr).add 2) = some (.int .i64 V.at_), ⟨st_c0 h35 3 rfl rfl, st_c0 h35 2 rfl rfl, st_c1 h35 3 rfl rfl⟩, ?_⟩
      rw [onP_some]
      refine ⟨_, fun _ h => h.1, _, fun _ h => h.2.1, ?_⟩
      rw [onP_some]
      refine ⟨_, fun _ h => h.2.2, ?_⟩
      rw [ew]
      refine rmap_get (L := flatV M) g1 (st_swap01 h35) 3 rfl (hv.more fun _ h => fF h) (by omega) ⟨by omega, by omega⟩ fun F2 d w45 k1 k2 hd h45 => ⟨⟨st_c0 h45 3 rfl rfl, st_c0 h45 2 rfl rfl, st_c1 h45 3 rfl rfl⟩, st_drew (st_swap01 h45) fun w47 h47 => ?_⟩
      rw [getR_flatV vo] at hd
      have := body d F2 w47 k1 k2 (by rw [hsn]; exact hd) h47
      rw [hsn] at this
      exact this
    · have hl0 : lkp B.data ks[i] = some p.data := by rw [← hpe]; exact (mem_puts (a := B.blocks) (b := B.most)).1 (by cases B; exact hp)
      have hsn : seenB M B V.at_ ks[i] = ⟨ks[i], p.data, true⟩ := by unfold seenB; rw [hl0]
      refine st_drew h26 fun w35 h35 => ?_
      have := body d F' w35 g1 (fun _ h => h) (by rw [hsn]; exact hd) h35
      rw [hsn] at this
      exact this
  · obtain rfl : i = ks.length := by omega
    rw [List.take_length] at hys' h22
    exact hk F' sl1 rs' ys' out w22 g1 (fun h hh => f2 _ (g2 _ hh)) (KRow.more f3 g2) hys' hyk' (h22.cut 2 (by simp))
end Go.Proofs.YtbolgpjcmchfoaaGreat
