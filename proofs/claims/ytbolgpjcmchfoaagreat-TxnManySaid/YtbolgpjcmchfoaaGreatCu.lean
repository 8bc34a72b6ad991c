/- Contracts: a read of a view. -/
import Derived.Test.YtbolgpjcmchfoaaGreatCt
namespace Go.Proofs.YtbolgpjcmchfoaaGreat
open Go Go.Vc Go.Sl Go.Mo
/-- The blocks so far as the one that reads sees them, the others as they were committed. -/
def mixedB (M : XMap) (B : Buf) (t : Int) (ks : List Int) (i : Nat) : List UInt8 := ((ks.take i).flatMap fun k => (seenB M B t k).data) ++ ((ks.drop i).flatMap fun k => M.get k t)
theorem seen_len {n : Nat} {M : XMap} {B : Buf} {t k : Int} (ok : XOk n M) (hb : ∀ q ∈ B.data, q.2.length = 40) : (seenB M B t k).data.length = 40 := by
  unfold seenB
  split
  · rename_i d e; exact hb _ (lkp_mem e)
  · exact get_length ok k t
theorem sub_spot {b k c n m : Nat} (h : k < c) : (⟨sub? (some ⟨b, 0, none⟩) k c 1, n, m⟩ : SV) = ⟨some ⟨b, k, none⟩, n, m⟩ := by
  unfold sub?
  rw [if_neg (by omega)]
  simp
theorem view_read {n : Nat} {p mp bp : Option Addr} {V : View} {M : XMap} {B : Buf} {e : Ext} {R : HP} {w : World} {K : SV × Int → World → Prop} (h : Sat (viewA p mp bp V * (xmapA mp M * (bufA bp B * R))) w) (ok : XOk n M) (hn : n ≤ 2 ^ 30)
    (hb : ∀ q ∈ B.data, q.2.length = 40) (okS : SetOk V.set) (hS : V.set.l.length ≤ 2 ^ 29) (hr : V.reads.length ≤ 2 ^ 30)
    (hk : ∀ s w', Sat (byteRow s (V.read M B e).2.1 * (viewA p mp bp (V.read M B e).1 * (xmapA mp M * (bufA bp B * R)))) w' → K (s, (V.read M B e).2.2) w') : c_rset_View_Read p e.first e.len w K := by
  obtain ⟨a, rfl⟩ := view_ptr h
  obtain ⟨mb, rfl⟩ := xmap_ptr h.right
  refine rset_View_Read_go ?_
  unfold f_rset_View_Read
  rw [withW_iff]
  have h2 := h.alloc (.cells #[.int .i64 e.first, .int .i64 e.len] 56)
  have c0 := h2.cell 0
  have c1 := h2.cell 1
  generalize w.alloc (.cells #[.int .i64 e.first, .int .i64 e.len] 56) = w1 at c0 c1 h2 ⊢
  generalize w.heap.size = eb at c0 c1 h2 ⊢
  clear h
  have nores : ∀ (w' : World) (c : Int), V.read M B e = (V, ([], c)) → Sat (viewA (some ⟨a, 0, none⟩) (some ⟨mb, 0, none⟩) bp V * (xmapA (some ⟨mb, 0, none⟩) M * (bufA bp B * R))) w' → K (⟨none, 0, 0⟩, c) w' := fun w' c hv h' => by
    have := hk ⟨none, 0, 0⟩ w'
    rw [hv] at this
    exact this (ownS_nil h' rfl rfl)
  refine ⟨e.len, by rw [add_mk]; exact c1, bsplit_decide.2 ⟨fun hl => nores _ _ (by unfold View.read; rw [if_pos (.inl hl)]) h2.right, fun hl1 => ⟨e.len, by rw [add_mk]; exact c1, bsplit_decide.2 ⟨fun hl => nores _ _ (by unfold View.read; rw [if_pos (.inr hl)]) h2.right, fun hl2 => ?_⟩⟩⟩⟩
  obtain ⟨sp, rs, h3⟩ := viewA_open h2.right
  have hv3 := (objA_cells h3).1
  refine bsplit_iff.2 ⟨fun e => (by cases e), fun _ => ?_⟩
  rw [onP_some]
  refine ⟨_, hv3 0, bsplit_iff.2 ⟨fun e => (by cases e), fun _ => ?_⟩⟩
  rw [withW_iff]
  refine ⟨fun w' => Keep w1 w', Keep.drew _, ?_⟩
  rw [onP_some]
  refine ⟨_, fun w' k => keep_cell k (hv3 0), (e.first, e.len), fun w' k => ⟨keep_cell k c0, by rw [add_mk]; exact keep_cell k c1⟩, ?_⟩
  rw [onP_some]
  refine ⟨V.at_, fun w' k => by rw [add_mk]; exact keep_cell k (hv3 2), ?_⟩
  refine range_c (h2.drew.right.right.left.eq (mul_one' _).symm) ok (by omega) fun so w17 h17 => ?_
  have k17 : Keep w1 w17 := (Keep.drew _).trans (Keep.whole h17.right)
  refine ⟨k17, ?_⟩
  cases hin : within M e with
  | false =>
    exact bsplit_iff.2 ⟨fun _ => nores _ _ (by unfold View.read; rw [if_neg (by omega), if_pos hin]; rfl) (k17.sat h2.right), fun e => (by cases e)⟩
  | true =>
    rw [hin] at h17
    simp only [if_true] at h17 ⊢
    refine bsplit_iff.2 ⟨fun e => (by cases e), fun _ => ?_⟩
    rw [withW_iff]
    have h2' : Sat (pt eb (.cells #[.int .i64 e.first, .int .i64 e.len] 56) * (objA (some ⟨a, 0, none⟩) [.pointer (some ⟨mb, 0, none⟩), .pointer bp, .int .i64 V.at_, .pointer sp, slv rs] * (setA sp V.set * (readsA rs V.reads * (xmapA (some ⟨mb, 0, none⟩) M * (bufA bp B * R)))))) w1 := by
      have : Sat (objA (some ⟨a, 0, none⟩) [.pointer (some ⟨mb, 0, none⟩), .pointer bp, .int .i64 V.at_, .pointer sp, slv rs] * (setA sp V.set * (readsA rs V.reads * (pt eb (.cells #[.int .i64 e.first, .int .i64 e.len] 56) * (xmapA (some ⟨mb, 0, none⟩) M * (bufA bp B * R)))))) w1 := by
        have h4 : Sat (viewA (some ⟨a, 0, none⟩) (some ⟨mb, 0, none⟩) bp V * (pt eb (.cells #[.int .i64 e.first, .int .i64 e.len] 56) * (xmapA (some ⟨mb, 0, none⟩) M * (bufA bp B * R)))) w1 := h2.eq (by ac_rfl)
        obtain ⟨sp', rs', h5⟩ := viewA_open h4
        have e5 := (objA_cells h5).1
        have e1 := (e5 3).symm.trans (hv3 3)
        have e2 := (e5 4).symm.trans (hv3 4)
        simp only [List.getElem?_cons_succ, List.getElem?_cons_zero, Option.some.injEq, Value.pointer.injEq, slv, Value.slice.injEq] at e1 e2
        subst e1
        obtain rfl : rs' = rs := by obtain ⟨x1, x2, x3⟩ := e2; cases rs'; cases rs; simp_all
        exact h5
      exact this.eq (by ac_rfl)
    have h18 : Sat (byteRow so (M.range e V.at_) * (pt eb (.cells #[.int .i64 e.first, .int .i64 e.len] 56) * (objA (some ⟨a, 0, none⟩) [.pointer (some ⟨mb, 0, none⟩), .pointer bp, .int .i64 V.at_, .pointer sp, slv rs] * (setA sp V.set * (readsA rs V.reads * (xmapA (some ⟨mb, 0, none⟩) M * (bufA bp B * R))))))) w17.drew :=
      (Sat.frame h17 h2'.drew).drew
    have cv : ∀ {A : HP} {w' : World}, Sat (pt eb (.cells #[.int .i64 e.first, .int .i64 e.len] 56) * (objA (some ⟨a, 0, none⟩) [.pointer (some ⟨mb, 0, none⟩), .pointer bp, .int .i64 V.at_, .pointer sp, slv rs] * A)) w' →
        w'.cell? ⟨a, 3, none⟩ = some (.pointer sp) ∧ w'.cell? ⟨eb, 0, none⟩ = some (.int .i64 e.first) ∧ w'.cell? ⟨eb, 1, none⟩ = some (.int .i64 e.len) := fun hh => ⟨(objA_cells hh.right).1 3, hh.cell 0, hh.cell 1⟩
    refine ⟨fun w' => w'.cell? ⟨a, 3, none⟩ = some (.pointer sp) ∧ w'.cell? ⟨eb, 0, none⟩ = some (.int .i64 e.first) ∧ w'.cell? ⟨eb, 1, none⟩ = some (.int .i64 e.len), cv h18.right, ?_⟩
    rw [onP_some]
    refine ⟨sp, fun w' k => by rw [add_mk]; exact k.1, (e.first, e.len), fun w' k => ⟨k.2.1, by rw [add_mk]; exact k.2.2⟩, ?_⟩
    rw [withW_iff]
    have h19 := h18.alloc (.cells #[.int .i64 e.first, .int .i64 e.len] 56)
    have d0 := h19.cell 0
    have d1 := h19.cell 1
    have h20 := h19.right
    generalize w17.drew.alloc (.cells #[.int .i64 e.first, .int .i64 e.len] 56) = w25 at d0 d1 h20 ⊢
    generalize w17.drew.heap.size = db at d0 d1 ⊢
    refine ⟨cv h20.right, ?_⟩
    have hex : extsOn (hp w25) ⟨some ⟨db, 0, none⟩, 1, 1⟩ [e] := ⟨rfl, fun j hj => by
      obtain rfl : j = 0 := by simpa using hj
      exact ⟨⟨db, 0, none⟩, rfl, d0, d1⟩⟩
    have h20' : Sat (setA sp V.set * (byteRow so (M.range e V.at_) * (pt eb (.cells #[.int .i64 e.first, .int .i64 e.len] 56) * (objA (some ⟨a, 0, none⟩) [.pointer (some ⟨mb, 0, none⟩), .pointer bp, .int .i64 V.at_, .pointer sp, slv rs] * (readsA rs V.reads * (xmapA (some ⟨mb, 0, none⟩) M * (bufA bp B * R))))))) w25 := h20.eq (by ac_rfl)
    refine set_add h20' okS hex (by simp; omega) fun w27 h27 => ?_
    refine ⟨cv (h27.right.right.eq (mul_assoc' _ _ _).symm |>.eq (mul_assoc' _ _ _)), ?_⟩
    by_cases hadd : (V.set.add [e]).2 = 0
    · rw [hadd]
      refine bsplit_iff.2 ⟨fun e => (by simp at e), fun _ => ⟨e.len, by rw [add_mk]; exact h27.right.right.cell 1, ?_⟩⟩
      have hvr : V.read M B e = ({ V with set := (V.set.add [e]).1, reads := V.reads ++ (blocksOf e).map (seenB M B V.at_) }, ((blocksOf e).flatMap fun k => (seenB M B V.at_ k).data, 0)) := by
        unfold View.read
        rw [if_neg (by omega), if_neg (by rw [hin]; simp), if_neg (by rw [hadd]; simp)]
      rw [hvr] at hk
      simp only at hk
      generalize (V.set.add [e]).1 = S1 at hk h27
      have hbl := blocksOf_length e
      have hlen : 0 ≤ e.first ∧ e.first + e.len ≤ 1048576 := by
        unfold within at hin
        simp only [Bool.and_eq_true, decide_eq_true_eq] at hin
        have := ok.1
        omega
      have h28 : Sat (byteRow so (mixedB M B V.at_ (blocksOf e) 0) * (pt eb (.cells #[.int .i64 e.first, .int .i64 e.len] 56) * (objA (some ⟨a, 0, none⟩) [.pointer (some ⟨mb, 0, none⟩), .pointer bp, .int .i64 V.at_, .pointer sp, slv rs] * (setA sp S1 * (readsA rs (V.reads ++ ((blocksOf e).take 0).map (seenB M B V.at_)) * (xmapA (some ⟨mb, 0, none⟩) M * (bufA bp B * R))))))) w27 := h27.eq (by
        simp only [mixedB, List.take_zero, List.flatMap_nil, List.nil_append, List.drop_zero, List.map_nil, List.append_nil, XMap.range]; ac_rfl)
      clear h27 h20 h20' h19 h18 hex h17
      refine loop_i (fun (x : Int) w' => ∃ (i : Nat) (rs' : SV), x = i ∧ i ≤ (blocksOf e).length ∧ Sat (byteRow so (mixedB M B V.at_ (blocksOf e) i) * (pt eb (.cells #[.int .i64 e.first, .int .i64 e.len] 56) * (objA (some ⟨a, 0, none⟩) [.pointer (some ⟨mb, 0, none⟩), .pointer bp, .int .i64 V.at_, .pointer sp, slv rs'] * (setA sp S1 * (readsA rs' (V.reads ++ ((blocksOf e).take i).map (seenB M B V.at_)) * (xmapA (some ⟨mb, 0, none⟩) M * (bufA bp B * R))))))) w')
        (fun x _ => (e.len - x).toNat) ⟨0, rs, rfl, by omega, h28⟩ ?_
      rintro x w30 ⟨i, rs', rfl, hi, hw⟩
      refine bsplit_decide.2 ⟨fun hlt => ?_, fun hge => ?_⟩
      · have hi' : i < (blocksOf e).length := by omega
        have hkey := blocksOf_get hi'
        have e40 : IntKind.i64.wrap ((i : Int) * 40) = ((i * 40 : Nat) : Int) := by rw [wrap_of (by omega) (by omega)]; omega
        have e1 : IntKind.i64.wrap ((i : Int) + 1) = ((i + 1 : Nat) : Int) := by rw [wrap_of (by omega) (by omega)]; omega
        have e41 : IntKind.i64.wrap (((i + 1 : Nat) : Int) * 40) = (((i + 1) * 40 : Nat) : Int) := by rw [wrap_of (by omega) (by omega)]; omega
        simp only [e1, e40, e41, Int.toNat_natCast]
        -- the row's parts
        generalize hA : (((blocksOf e).take i).flatMap fun k => (seenB M B V.at_ k).data) = A
        generalize hC : (((blocksOf e).drop (i + 1)).flatMap fun k => M.get k V.at_) = C
        have hAl : A.length = i * 40 := by rw [← hA, flatMap_len _ fun k _ => seen_len ok hb, List.length_take]; congr 1; omega
        have hgl := get_length ok (e.first + i) V.at_
        have hm0 : mixedB M B V.at_ (blocksOf e) i = A ++ M.get (e.first + i) V.at_ ++ C := by
          unfold mixedB
          rw [List.drop_eq_getElem_cons hi', List.flatMap_cons, hA, hC, hkey, List.append_assoc]
        have hm1 : mixedB M B V.at_ (blocksOf e) (i + 1) = A ++ (seenB M B V.at_ (e.first + i)).data ++ C := by
          unfold mixedB
          rw [List.take_succ_eq_append_getElem hi', List.flatMap_append, hA, hC, hkey]
          simp only [List.flatMap_cons, List.flatMap_nil, List.append_nil]
        have hr1 : V.reads ++ ((blocksOf e).take (i + 1)).map (seenB M B V.at_) = (V.reads ++ ((blocksOf e).take i).map (seenB M B V.at_)) ++ [seenB M B V.at_ (e.first + i)] := by
          rw [List.take_succ_eq_append_getElem hi', List.map_append, hkey, List.append_assoc]; rfl
        have hrl : (V.reads ++ ((blocksOf e).take i).map (seenB M B V.at_)).length + 1 ≤ 2 ^ 36 := by simp [List.length_take]; omega
        generalize V.reads ++ ((blocksOf e).take i).map (seenB M B V.at_) = rd at hw hr1 hrl
        rw [hm0] at hw
        have hson : so.n = (A ++ M.get (e.first + i) V.at_ ++ C).length := by have := ownS_length hw; rw [bytesV_length] at this; omega
        have hcap := ownS_cap hw
        have hlt40 : i * 40 < so.c := by simp only [List.length_append] at hson; omega
        obtain ⟨ob, hob⟩ := ownS_spot hw (by omega)
        refine ⟨by omega, by omega, by simp only [List.length_append] at hson; omega, ?_⟩
        rw [withW_iff]
        have hwd := hw.drew
        have hcl := (objA_cells hwd.right.right).1
        refine ⟨fun w' => Keep w30.drew w', Keep.refl _, ?_⟩
        rw [onP_some]
        refine ⟨bp, fun w' k => by rw [add_mk]; exact keep_cell k (hcl 1), e.first, fun w' k => keep_cell k (hwd.right.cell 0), ?_⟩
        rw [wrap_of (x := e.first + i) (by omega) (by omega)]
        refine buf_get (B := B) (hwd.right.right.right.right.right.right.left.eq (mul_one' _).symm) (fun q hq => by rw [hb q hq]; omega) fun s39 w40 h40 => ?_
        refine ⟨Keep.whole h40.right, ?_⟩
        have h41 := Sat.frame h40 hwd
        rw [hob, sub_spot hlt40]
        have e4 : (i + 1) * 40 - i * 40 = 40 := by omega
        rw [e4]
        cases hlk : lkp B.data (e.first + i) with
        | some d =>
          rw [hlk] at h41
          simp only [Option.isSome_some, Option.getD_some] at h41 ⊢
          have hsd : seenB M B V.at_ (e.first + i) = ⟨e.first + i, d, true⟩ := by unfold seenB; rw [hlk]
          rw [hsd] at hm1 hr1
          simp only at hm1
          have hdl : d.length = 40 := hb _ (lkp_mem hlk)
          have hon := byteRow_on h41.left
          refine bsplit_iff.2 ⟨fun _ => ?_, fun e => (by cases e)⟩
          have h42 : Sat (byteRow so (A ++ M.get (e.first + i) V.at_ ++ C) * (byteRow s39 d * (pt eb (.cells #[.int .i64 e.first, .int .i64 e.len] 56) * (objA (some ⟨a, 0, none⟩) [.pointer (some ⟨mb, 0, none⟩), .pointer bp, .int .i64 V.at_, .pointer sp, slv rs'] * (setA sp S1 * (readsA rs' rd * (xmapA (some ⟨mb, 0, none⟩) M * (bufA bp B * R)))))))) w40 := h41.eq (by ac_rfl)
          obtain ⟨ob', hob', hst, h43⟩ := ownS_store (news := bytesV d) (pre := bytesV A) (old := bytesV (M.get (e.first + i) V.at_)) (post := bytesV C) h42 (by simp only [bytesV_append]) (by rw [bytesV_length, bytesV_length, hgl, hdl]) (by rw [bytesV_length, hgl]; omega)
          rw [hob] at hob'; cases hob'
          rw [bytesV_length, hAl] at hst h43
          refine ⟨bytesV d, by rw [bytesV_length, hdl, hon.1, hdl]; rfl, all_one_bytes d, rowOn_cells hon.2, fun hno => ?_, fun ad had => ?_, ?_⟩
          · have := hon.2.1 hno
            have h2 := bytesV_length d
            rw [this] at h2; simp at h2; omega
          · cases had; exact hst
          have e5 : storeO (⟨some ⟨ob, i * 40, none⟩, 40, so.c - i * 40⟩ : SV).a w40 0 (bytesV d) = storeAll w40 ⟨ob, i * 40, none⟩ 0 (bytesV d) := by simp [storeO]
          rw [e5]
          generalize storeAll w40 ⟨ob, i * 40, none⟩ 0 (bytesV d) = w42 at h43 ⊢
          dsimp only
          rw [withW_iff]
          have h44 := h43.drew
          have hcl44 := (objA_cells h44.right.right.right).1
          have hc44 := h44.right.right.cell 0
          refine ⟨fun w' => w'.cell? ⟨a, 4, none⟩ = some (slv rs') ∧ w'.cell? ⟨eb, 0, none⟩ = some (.int .i64 e.first), ⟨hcl44 4, hc44⟩, ?_⟩
          rw [onP_some]
          refine ⟨rs', fun w' k => by rw [add_mk]; exact k.1, e.first, fun w' k => k.2, ?_⟩
          rw [withW_iff]
          rw [wrap_of (x := e.first + i) (by omega) (by omega)]
          have h45 := h44.alloc (.cells #[.int .i64 (e.first + i), .slice s39.a s39.n s39.c, .bool true] 76)
          have f0 := h45.cell 0
          have f1 := h45.cell 1
          have f2 := h45.cell 2
          have h46 := h45.right
          generalize w42.drew.alloc (.cells #[.int .i64 (e.first + i), .slice s39.a s39.n s39.c, .bool true] 76) = w50 at f0 f1 f2 h46 ⊢
          generalize w42.drew.heap.size = fb at f0 f1 f2 ⊢
          refine ⟨⟨(objA_cells h46.right.right.right).1 4, h46.right.right.cell 0⟩, ?_⟩
          have h47 : Sat (readsA rs' rd * (byteRow s39 d * (ownS 1 so (bytesV A ++ bytesV d ++ bytesV C) * (pt eb (.cells #[.int .i64 e.first, .int .i64 e.len] 56) * (objA (some ⟨a, 0, none⟩) [.pointer (some ⟨mb, 0, none⟩), .pointer bp, .int .i64 V.at_, .pointer sp, slv rs'] * (setA sp S1 * (xmapA (some ⟨mb, 0, none⟩) M * (bufA bp B * R)))))))) w50 := h46.eq (by ac_rfl)
          refine reads_push (x := ⟨e.first + i, d, true⟩) h47 ⟨f0, f1, f2⟩ hrl fun s51 w52 h52 => ?_
          have h53 : Sat (objA (some ⟨a, 0, none⟩) [.pointer (some ⟨mb, 0, none⟩), .pointer bp, .int .i64 V.at_, .pointer sp, slv rs'] * (pt eb (.cells #[.int .i64 e.first, .int .i64 e.len] 56) * (readsA s51 (rd ++ [⟨e.first + i, d, true⟩]) * (ownS 1 so (bytesV A ++ bytesV d ++ bytesV C) * (setA sp S1 * (xmapA (some ⟨mb, 0, none⟩) M * (bufA bp B * R))))))) w52 := h52.eq (by ac_rfl)
          refine ⟨⟨(objA_cells h53).1 4, h53.right.cell 0⟩, ?_⟩
          rw [onP_some, add_mk]
          refine objA_storeT h53 (by simp) fun w54 h54 => ?_
          refine ⟨⟨i + 1, s51, rfl, by omega, ?_⟩, by omega⟩
          rw [hm1, hr1]
          simp only [Nat.zero_add, List.set_cons_succ, List.set_cons_zero] at h54
          exact h54.eq (by unfold byteRow; rw [bytesV_append, bytesV_append]; unfold slv; ac_rfl)
        | none =>
          rw [hlk] at h41
          simp only [Option.isSome_none, Option.getD_none] at h41 ⊢
          have hsd : seenB M B V.at_ (e.first + i) = ⟨e.first + i, M.get (e.first + i) V.at_, false⟩ := by unfold seenB; rw [hlk]
          rw [hsd] at hm1 hr1
          simp only at hm1
          refine bsplit_iff.2 ⟨fun e => (by cases e), fun _ => ?_⟩
          rw [withW_iff]
          have h42 : Sat (byteRow so (A ++ M.get (e.first + i) V.at_ ++ C) * (pt eb (.cells #[.int .i64 e.first, .int .i64 e.len] 56) * (objA (some ⟨a, 0, none⟩) [.pointer (some ⟨mb, 0, none⟩), .pointer bp, .int .i64 V.at_, .pointer sp, slv rs'] * (setA sp S1 * (readsA rs' rd * (xmapA (some ⟨mb, 0, none⟩) M * (bufA bp B * R))))))) w40.drew := h41.right.drew
          have hcl42 := (objA_cells h42.right.right).1
          refine ⟨fun w' => w'.cell? ⟨a, 4, none⟩ = some (slv rs') ∧ w'.cell? ⟨eb, 0, none⟩ = some (.int .i64 e.first), ⟨hcl42 4, h42.right.cell 0⟩, ?_⟩
          rw [onP_some]
          refine ⟨rs', fun w' k => by rw [add_mk]; exact k.1, e.first, fun w' k => k.2, ?_⟩
          have hsub : bytesOn (hp w40.drew) ⟨some ⟨ob, i * 40, none⟩, 40, so.c - i * 40⟩ (M.get (e.first + i) V.at_) := by
            have hro := row_sub (k := i * 40) (m := (i + 1) * 40) (byteRow_on h42.left).2 (fun ad had => by rw [hob] at had; cases had; rfl) (by rw [bytesV_length, hson]) hcap (by omega) (by simp only [List.length_append] at hson; omega) (so.c - i * 40)
            rw [hob, sub_spot hlt40, e4] at hro
            refine ⟨hgl.symm, ?_⟩
            have : ((bytesV (A ++ M.get (e.first + i) V.at_ ++ C)).drop (i * 40)).take 40 = bytesV (M.get (e.first + i) V.at_) := by
              have hA' : (bytesV A).length = i * 40 := by rw [bytesV_length, hAl]
              have hg' : (bytesV (M.get (e.first + i) V.at_)).length = 40 := by rw [bytesV_length, hgl]
              rw [bytesV_append, bytesV_append, List.append_assoc, ← hA', List.drop_left, ← hg', List.take_left]
            rw [this] at hro
            exact hro
          refine clone_row h42 hsub (by rw [hgl]; omega) fun s62 w63 h63 => ?_
          have g1 : ∀ {A' : HP} {w' : World}, Sat (A' * (byteRow so (A ++ M.get (e.first + i) V.at_ ++ C) * (pt eb (.cells #[.int .i64 e.first, .int .i64 e.len] 56) * (objA (some ⟨a, 0, none⟩) [.pointer (some ⟨mb, 0, none⟩), .pointer bp, .int .i64 V.at_, .pointer sp, slv rs'] * (setA sp S1 * (readsA rs' rd * (xmapA (some ⟨mb, 0, none⟩) M * (bufA bp B * R)))))))) w' → w'.cell? ⟨a, 4, none⟩ = some (slv rs') ∧ w'.cell? ⟨eb, 0, none⟩ = some (.int .i64 e.first) := fun hh => ⟨(objA_cells hh.right.right.right).1 4, hh.right.right.cell 0⟩
          refine ⟨g1 h63, ?_⟩
          rw [withW_iff]
          rw [wrap_of (x := e.first + i) (by omega) (by omega)]
          have h64 := h63.alloc (.cells #[.int .i64 (e.first + i), .slice s62.a s62.n s62.c, .bool false] 76)
          have f0 := h64.cell 0
          have f1 := h64.cell 1
          have f2 := h64.cell 2
          have h65 := h64.right
          generalize w63.alloc (.cells #[.int .i64 (e.first + i), .slice s62.a s62.n s62.c, .bool false] 76) = w64 at f0 f1 f2 h65 ⊢
          generalize w63.heap.size = fb at f0 f1 f2 ⊢
          refine ⟨g1 h65, ?_⟩
          have h66 : Sat (readsA rs' rd * (byteRow s62 (M.get (e.first + i) V.at_) * (byteRow so (A ++ M.get (e.first + i) V.at_ ++ C) * (pt eb (.cells #[.int .i64 e.first, .int .i64 e.len] 56) * (objA (some ⟨a, 0, none⟩) [.pointer (some ⟨mb, 0, none⟩), .pointer bp, .int .i64 V.at_, .pointer sp, slv rs'] * (setA sp S1 * (xmapA (some ⟨mb, 0, none⟩) M * (bufA bp B * R)))))))) w64 := h65.eq (by ac_rfl)
          refine reads_push (x := ⟨e.first + i, M.get (e.first + i) V.at_, false⟩) h66 ⟨f0, f1, f2⟩ hrl fun s51 w52 h52 => ?_
          have h53 : Sat (objA (some ⟨a, 0, none⟩) [.pointer (some ⟨mb, 0, none⟩), .pointer bp, .int .i64 V.at_, .pointer sp, slv rs'] * (pt eb (.cells #[.int .i64 e.first, .int .i64 e.len] 56) * (readsA s51 (rd ++ [⟨e.first + i, M.get (e.first + i) V.at_, false⟩]) * (byteRow so (A ++ M.get (e.first + i) V.at_ ++ C) * (setA sp S1 * (xmapA (some ⟨mb, 0, none⟩) M * (bufA bp B * R))))))) w52 := h52.eq (by ac_rfl)
          refine ⟨⟨(objA_cells h53).1 4, h53.right.cell 0⟩, ?_⟩
          rw [onP_some, add_mk]
          refine objA_storeT h53 (by simp) fun w54 h54 => ?_
          refine ⟨⟨i + 1, s51, rfl, by omega, ?_⟩, by omega⟩
          rw [hm1, hr1]
          simp only [Nat.zero_add, List.set_cons_succ, List.set_cons_zero] at h54
          exact h54.eq (by unfold slv; ac_rfl)
      · obtain rfl : i = (blocksOf e).length := by omega
        rw [List.take_length] at hw
        have hmx : mixedB M B V.at_ (blocksOf e) (blocksOf e).length = (blocksOf e).flatMap fun k => (seenB M B V.at_ k).data := by
          unfold mixedB; rw [List.take_length, List.drop_length]; simp
        rw [hmx] at hw
        refine hk _ _ ?_
        have h60 : Sat (objA (some ⟨a, 0, none⟩) [.pointer (some ⟨mb, 0, none⟩), .pointer bp, .int .i64 V.at_, .pointer sp, slv rs'] * (setA sp S1 * (readsA rs' (V.reads ++ (blocksOf e).map (seenB M B V.at_)) * (byteRow so ((blocksOf e).flatMap fun k => (seenB M B V.at_ k).data) * (xmapA (some ⟨mb, 0, none⟩) M * (bufA bp B * R)))))) w30 :=
          (hw.eq (by ac_rfl : _ = pt eb (.cells #[.int .i64 e.first, .int .i64 e.len] 56) * (objA (some ⟨a, 0, none⟩) [.pointer (some ⟨mb, 0, none⟩), .pointer bp, .int .i64 V.at_, .pointer sp, slv rs'] * (setA sp S1 * (readsA rs' (V.reads ++ (blocksOf e).map (seenB M B V.at_)) * (byteRow so ((blocksOf e).flatMap fun k => (seenB M B V.at_ k).data) * (xmapA (some ⟨mb, 0, none⟩) M * (bufA bp B * R)))))))).right
        have h61 := viewA_close (V := { V with set := S1, reads := V.reads ++ (blocksOf e).map (seenB M B V.at_) }) h60
        exact h61.eq (by ac_rfl)
    · refine bsplit_iff.2 ⟨fun _ => ?_, fun e => absurd (by simpa using e) hadd⟩
      rw [add_fail hadd] at h27
      have h28 : Sat (objA (some ⟨a, 0, none⟩) [.pointer (some ⟨mb, 0, none⟩), .pointer bp, .int .i64 V.at_, .pointer sp, slv rs] * (setA sp V.set * (readsA rs V.reads * (byteRow so (M.range e V.at_) * (pt eb (.cells #[.int .i64 e.first, .int .i64 e.len] 56) * (xmapA (some ⟨mb, 0, none⟩) M * (bufA bp B * R))))))) w27 := h27.eq (by ac_rfl)
      have h29 := viewA_close (V := V) h28
      refine nores _ _ (by unfold View.read; rw [if_neg (by omega), if_neg (by rw [hin]; simp), if_pos hadd]) ?_
      exact (h29.eq (by ac_rfl : _ = (byteRow so (M.range e V.at_) * pt eb (.cells #[.int .i64 e.first, .int .i64 e.len] 56)) * (viewA (some ⟨a, 0, none⟩) (some ⟨mb, 0, none⟩) bp V * (xmapA (some ⟨mb, 0, none⟩) M * (bufA bp B * R))))).right
end Go.Proofs.YtbolgpjcmchfoaaGreat
