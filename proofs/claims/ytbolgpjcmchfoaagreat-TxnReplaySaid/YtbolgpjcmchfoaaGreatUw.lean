/- The document's replay of histories: who wrote, in which order, all of it. -/
import Derived.Test.YtbolgpjcmchfoaaGreatUv
namespace Go.Proofs.YtbolgpjcmchfoaaGreat
open Go Go.Vc Go.Sl Go.Mo
structure HX where
  st : Int
  be : Int
  ti : Int
  rs : SV
  ws : SV
  ps : List Put
def histC (x : HX) : List Value := [.int .i64 x.st, .int .i64 x.be, .int .i64 x.ti, .int .i64 0, .int .i64 0, slv x.rs, slv x.ws]
def wroteX (x : HX) : Bool := decide (x.st = 3) && decide (0 < x.ws.n)
def wroteAt (xs : List HX) (j : Nat) : Bool :=
  match xs[j]? with
  | some x => wroteX x
  | none => false
def tmX (xs : List HX) (j : Nat) : Int :=
  match xs[j]? with
  | some x => x.ti
  | none => 0
def psX (xs : List HX) (j : Nat) : List Put :=
  match xs[j]? with
  | some x => x.ps
  | none => []
/-- The first i, those that wrote, in order of their times. -/
structure Ord (xs : List HX) (i : Nat) (o : List Nat) : Prop where
  perm : o.Perm ((List.range i).filter (wroteAt xs))
  sorted : o.Pairwise fun a b => tmX xs a ≤ tmX xs b
theorem ord_0 (xs : List HX) : Ord xs 0 [] := ⟨by simp, by simp⟩
theorem Ord.mem {xs : List HX} {i : Nat} {o : List Nat} (h : Ord xs i o) {j : Nat} (hj : j ∈ o) : j < i ∧ wroteAt xs j = true := by
  have := h.perm.mem_iff.1 hj
  simpa using this
theorem ord_skip {xs : List HX} {i : Nat} {o : List Nat} (h : Ord xs i o) (hw : wroteAt xs i = false) : Ord xs (i + 1) o :=
  ⟨by rw [List.range_succ, List.filter_append]; simpa [hw] using h.perm, h.sorted⟩
theorem ord_ins {xs : List HX} {i j : Nat} {o : List Nat} (h : Ord xs i o) (hw : wroteAt xs i = true) (hj : j ≤ o.length) (h1 : ∀ (hj : j - 1 < o.length), 0 < j → tmX xs o[j - 1] ≤ tmX xs i) (h2 : ∀ m (hm : m < o.length), j ≤ m → tmX xs i < tmX xs o[m]) : Ord xs (i + 1) (o.take j ++ i :: o.drop j) := by
  constructor
  · rw [List.range_succ, List.filter_append]
    have e : (o.take j ++ i :: o.drop j).Perm (o ++ [i]) := by
      refine List.perm_middle.trans ?_
      rw [List.take_append_drop]
      exact (List.perm_append_comm (l₁ := [i]) (l₂ := o))
    refine e.trans ?_
    have : [i].filter (wroteAt xs) = [i] := by simp [hw]
    rw [this]
    exact h.perm.append_right _
  · have hs := h.sorted
    rw [List.pairwise_append]
    have hp := List.pairwise_iff_getElem.1 hs
    refine ⟨hs.sublist (List.take_sublist _ _), List.pairwise_cons.2 ⟨fun b hb => ?_, hs.sublist (List.drop_sublist _ _)⟩, fun a ha b hb => ?_⟩
    · obtain ⟨m, hm, rfl⟩ := List.getElem_of_mem hb
      rw [List.getElem_drop]
      have := h2 (j + m) (by rw [List.length_drop] at hm; omega) (by omega)
      omega
    · obtain ⟨m, hm, rfl⟩ := List.getElem_of_mem ha
      rw [List.length_take] at hm
      rw [List.getElem_take]
      have hmi : tmX xs o[m] ≤ tmX xs i := by
        have a1 := h1 (by omega) (by omega)
        by_cases e : m = j - 1
        · subst e; exact a1
        · have := hp m (j - 1) (by omega) (by omega) (by omega)
          omega
      rcases List.mem_cons.1 hb with e | e
      · subst e; exact hmi
      · obtain ⟨q, hq, rfl⟩ := List.getElem_of_mem e
        rw [List.getElem_drop]
        have := h2 (j + q) (by rw [List.length_drop] at hq; omega) (by omega)
        omega
theorem wrote_c {a b c d e : Int} {s t : SV} {w : World} {K : Bool → World → Prop} (hk : ∀ w', Keep w w' → K (decide (a = 3) && decide (0 < t.n)) w') : c_scarpref20_Wrote a b c d e s t w K := by
  refine scarpref20_Wrote_go ?_
  unfold f_scarpref20_Wrote
  have k1 := Keep.alloc w (.cells [.int .i64 a, .int .i64 b, .int .i64 c, .int .i64 d, .int .i64 e, slv s, slv t].toArray 73)
  have h1 : Sat (objA (some ⟨w.heap.size, 0, none⟩) [.int .i64 a, .int .i64 b, .int .i64 c, .int .i64 d, .int .i64 e, slv s, slv t] * whole w) (w.alloc (.cells [.int .i64 a, .int .i64 b, .int .i64 c, .int .i64 d, .int .i64 e, slv s, slv t].toArray 73)) := objA_new (sat_whole w)
  rw [withW_iff]
  refine ⟨a, (objA_cells h1).1 0, bsplit_decide.2 ⟨fun q => ⟨t, by rw [add_mk]; exact (objA_cells h1).1 6, ?_⟩, fun q => ?_⟩⟩
  · have := hk _ k1
    rw [decide_eq_true q, Bool.true_and] at this
    have e : decide ((0 : Int) < ((t.n : Nat) : Int)) = decide (0 < t.n) := by simp
    rw [e]; exact this
  · have := hk _ k1
    rw [decide_eq_false q, Bool.false_and] at this
    exact this
/-! ### Order -/
def nv (j : Nat) : Value := .int .i64 ((j : Nat) : Int)
def rowAt (l : List Value) (z : Value) (q : Nat) : List Value := (l ++ [z]).take (q + 1) ++ l.drop q
theorem rowAt_length {l : List Value} {z : Value} {q : Nat} (hq : q ≤ l.length) : (rowAt l z q).length = l.length + 1 := by
  unfold rowAt
  rw [List.length_append, List.length_take, List.length_drop, List.length_append, List.length_singleton]; omega
theorem rowAt_top (l : List Value) (z : Value) : rowAt l z l.length = l ++ [z] := by
  unfold rowAt
  rw [List.drop_length, List.append_nil, List.take_of_length_le (by simp)]
theorem rowAt_set {l : List Value} {z v : Value} {q : Nat} (hq : q ≤ l.length) : (rowAt l z q).set q v = l.take q ++ v :: l.drop q := by
  have h1 : q < (l ++ [z]).length := by simp; omega
  unfold rowAt
  rw [List.take_succ_eq_append_getElem h1, List.append_assoc, List.take_append_of_le_length hq]
  have hlen : (l.take q).length = q := by rw [List.length_take]; omega
  rw [List.set_append_right _ _ (by omega), hlen, Nat.sub_self]
  rfl
theorem rowAt_step {l : List Value} {z : Value} {q : Nat} (h0 : 0 < q) (hq : q ≤ l.length) : (rowAt l z q).set q (l[q - 1]'(by omega)) = rowAt l z (q - 1) := by
  rw [rowAt_set hq]
  unfold rowAt
  have e : q - 1 + 1 = q := by omega
  have h2 : l.drop (q - 1) = l[q - 1]'(by omega) :: l.drop q := by rw [List.drop_eq_getElem_cons (by omega), e]
  rw [e, h2, List.take_append_of_le_length hq]
theorem rowAt_get {l : List Value} {z : Value} {q : Nat} (h0 : 0 < q) (hq : q ≤ l.length) : (rowAt l z q)[q - 1]? = some (l[q - 1]'(by omega)) := by
  unfold rowAt
  rw [List.getElem?_append_left (by rw [List.length_take, List.length_append]; simp; omega), List.getElem?_take, if_pos (by omega), List.getElem?_append_left (by omega), List.getElem?_eq_getElem]
theorem order_p1 {F : Heap → Prop} {R : HP} {s : SV} {o : List Nat} {i m : Nat} {w : World} {K : SV × Int → World → Prop} (h : St [pool F, R, ownS 1 s (o.map nv)] w) (hm : m ≤ o.length) (hn : o.length ≤ 2 ^ 30) (hi : i ≤ 2 ^ 30)
    (hK : ∀ s' w', St [pool F, R, ownS 1 s' ((o.take m ++ i :: o.drop m).map nv)] w' → K (⟨s'.a, s'.n, s'.c⟩, ((i + 1 : Nat) : Int)) w') : f_scarpref20_Order_p1 w (s, (i : Int)) (m : Int) K := by
  unfold f_scarpref20_Order_p1
  dsimp only
  have hsn := st_len h 2 rfl
  rw [List.length_map] at hsn
  have hol : (o.map nv).length = o.length := List.length_map _
  refine st_newF (vs := [.int .i64 0]) h fun w18 h18 => st_push h18 3 rfl 0 rfl rfl rfl (by omega) (by omega) rfl fun s19 w20 hs19 h20 => ?_
  rw [withI_iff]
  have e0 : IntKind.i64.wrap (((s19.n : Nat) : Int) - 1) = (o.length : Int) := by rw [wrap_of (by omega) (by omega)]; omega
  rw [e0]
  have h21 : St [pool F, R, ownS 1 s19 (rowAt (o.map nv) (.int .i64 0) o.length)] w20 := by
    have := h20.cut 0 (by simp)
    rw [← hol, rowAt_top]; exact this
  refine loop_i (fun (x : Int) w' => ∃ q : Nat, x = (q : Int) ∧ m ≤ q ∧ q ≤ o.length ∧ St [pool F, R, ownS 1 s19 (rowAt (o.map nv) (.int .i64 0) q)] w') (fun x _ => x.toNat) ⟨o.length, rfl, hm, Nat.le_refl _, h21⟩ ?_
  clear h21 h20 h18 h
  rintro x w23 ⟨q, rfl, hmq, hq, h⟩
  have hrl := rowAt_length (l := o.map nv) (z := .int .i64 0) (q := q) (by omega)
  rw [hol] at hrl
  refine bsplit_decide.2 ⟨fun hlt => ?_, fun hge => ?_⟩
  · have e1 : IntKind.i64.wrap ((q : Int) - 1) = ((q - 1 : Nat) : Int) := by rw [wrap_of (by omega) (by omega)]; omega
    rw [e1]
    refine ⟨by omega, by omega, st_own h 2 rfl (by omega) fun b hb hc => ⟨((o[q - 1]'(by omega) : Nat) : Int), ?_, by omega, by omega, ?_⟩⟩
    · rw [add_mk]
      refine hc _ _ ?_
      simp only [Int.toNat_natCast, Nat.mul_one, Nat.zero_add]
      rw [rowAt_get (by omega) (by omega), List.getElem_map]; rfl
    · obtain ⟨b', hb', hst, hset⟩ := own_set1 (i := q) (h.take 2 rfl) (by omega)
      refine onP_i hb' ?_
      rw [add_mk, Int.toNat_natCast, Nat.mul_one, Nat.zero_add]
      refine ⟨hst, rfl, ?_⟩
      rw [withW_iff]
      have h2 := St.put (hset (.int .i64 ((o[q - 1]'(by omega) : Nat) : Int))) (l := [pool F, R, ownS 1 s19 (rowAt (o.map nv) (.int .i64 0) q)]) rfl
      have e2 : (rowAt (o.map nv) (.int .i64 0) q).set q (.int .i64 ((o[q - 1]'(by omega) : Nat) : Int)) = rowAt (o.map nv) (.int .i64 0) (q - 1) := by
        rw [← rowAt_step (by omega) (by omega), List.getElem_map]; rfl
      rw [e2] at h2
      exact ⟨⟨q - 1, rfl, by omega, by omega, h2⟩, by omega⟩
  · obtain rfl : q = m := by omega
    obtain ⟨b', hb', hst, hset⟩ := own_set1 (i := q) (h.take 2 rfl) (by omega)
    refine ⟨by omega, by omega, onP_i hb' ?_⟩
    rw [add_mk, Int.toNat_natCast, Nat.mul_one, Nat.zero_add]
    refine ⟨hst, rfl, ?_⟩
    rw [withW_iff, wrap_of (by omega) (by omega)]
    have h2 := St.put (hset (.int .i64 (i : Int))) (l := [pool F, R, ownS 1 s19 (rowAt (o.map nv) (.int .i64 0) q)]) rfl
    rw [rowAt_set (by omega)] at h2
    refine hK s19 _ ?_
    rw [List.map_append, List.map_cons, List.map_take, List.map_drop]
    exact h2
theorem order_c {xs : List HX} {hsv : SV} {F : Heap → Prop} {R : HP} {w : World} {K : SV → World → Prop} (hF : Mono F) (hA : KRow F 7 hsv (xs.flatMap histC)) (hn : xs.length ≤ 2 ^ 20) (h : St [pool F, R] w)
    (hk : ∀ o s w', Ord xs xs.length o → St [pool F, R, ownS 1 s (o.map nv)] w' → K s w') : c_scarpref20_Order hsv w K := by
  refine scarpref20_Order_go ?_
  unfold f_scarpref20_Order
  have hC : ∀ x, (histC x).length = 7 := fun _ => rfl
  have hhn := KRow.n hA hC (by omega)
  have h1 : St [pool F, R, ownS 1 ⟨none, 0, 0⟩ []] w := (st_nilF 1 h).to (by simp only [bigS, List.foldr, mul_one']; ac_rfl)
  refine loop_i (fun (x : SV × Int) w' => ∃ (i : Nat) (o : List Nat), x.2 = i ∧ i ≤ xs.length ∧ Ord xs i o ∧ St [pool F, R, ownS 1 x.1 (o.map nv)] w') (fun x _ => (xs.length - x.2).toNat) ⟨0, [], rfl, by omega, ord_0 xs, h1⟩ ?_
  clear h1 h
  rintro ⟨s, x⟩ w2 ⟨i, o, hx, hi, ho, h⟩
  simp only at hx h; subst hx
  dsimp only
  rw [hhn]
  refine bsplit_decide.2 ⟨fun hlt => ?_, fun hge => ?_⟩
  · have hi' : i < xs.length := by omega
    have e1 : IntKind.i64.wrap ((i : Int) + 1) = ((i + 1 : Nat) : Int) := by rw [wrap_of (by omega) (by omega)]; omega
    have hwi : wroteAt xs i = wroteX xs[i] := by unfold wroteAt; rw [List.getElem?_eq_getElem hi']
    have hol : o.length ≤ i := by
      have := ho.perm.length_eq
      have h2 := List.length_filter_le (wroteAt xs) (List.range i)
      rw [List.length_range] at h2; omega
    -- what is read of a history
    have cells : ∀ {w' : World}, St [pool F, R, ownS 1 s (o.map nv)] w' → ∀ {j : Nat} (hj : j < xs.length) {k : Addr → Prop}, (∀ ad, w'.cell? (ad.add ((j : Int).toNat * 7)) = (histC xs[j])[0]? → (∀ q, q < 7 → w'.cell? ((ad.add ((j : Int).toNat * 7)).add q) = (histC xs[j])[q]?) → k ad) → onP hsv.a k := fun {w'} h' {j} hj {k} hK => by
      obtain ⟨ad, ha, c0, c⟩ := KRow.get hA hC (by omega) (st_pool hF h' 0 rfl) hj
      exact onP_i ha (hK ad c0 c)
    refine ⟨by omega, by omega, cells h hi' fun ad c0 c => ⟨(xs[i].st, xs[i].be, xs[i].ti, 0, 0, xs[i].rs, xs[i].ws), ⟨c0, c 1 (by omega), c 2 (by omega), c 3 (by omega), c 4 (by omega), c 5 (by omega), c 6 (by omega)⟩, ?_⟩⟩
    refine wrote_c fun w7 k7 => ?_
    have h7 := h.keep k7
    change bsplit (!wroteX xs[i]) _ _
    rw [← hwi]
    refine bsplit_iff.2 ⟨fun q => ?_, fun q => ?_⟩
    · rw [e1]
      exact ⟨⟨i + 1, o, rfl, by omega, ord_skip ho (by simpa using q), h7⟩, by first | omega | (simp only; omega)⟩
    · have hw : wroteAt xs i = true := by simpa using q
      have hsn := st_len h7 2 rfl
      rw [List.length_map] at hsn
      have es : ((s.n : Nat) : Int) = (o.length : Int) := by omega
      have fin : ∀ {m : Nat} {w' : World}, m ≤ o.length → (∀ (hm : m - 1 < o.length), 0 < m → tmX xs o[m - 1] ≤ tmX xs i) → (∀ q (hq : q < o.length), m ≤ q → tmX xs i < tmX xs o[q]) → St [pool F, R, ownS 1 s (o.map nv)] w' →
          f_scarpref20_Order_p1 w' (s, (i : Int)) (m : Int) fun x' w' => (∃ (i : Nat) (o : List Nat), x'.2 = i ∧ i ≤ xs.length ∧ Ord xs i o ∧ St [pool F, R, ownS 1 x'.1 (o.map nv)] w') ∧ (xs.length - x'.2).toNat < (xs.length - (i : Int)).toNat := fun {m w'} hm g1 g2 h' => by
        refine order_p1 h' hm (by omega) (by omega) fun s' w'' h'' => ?_
        exact ⟨⟨i + 1, _, rfl, by omega, ord_ins ho hw hm g1 g2, h''⟩, by first | omega | (simp only; omega)⟩
      rw [es]
      refine loop_i (fun (x : Int) w' => ∃ m : Nat, x = (m : Int) ∧ m ≤ o.length ∧ (∀ q (hq : q < o.length), m ≤ q → tmX xs i < tmX xs o[q]) ∧ St [pool F, R, ownS 1 s (o.map nv)] w') (fun x _ => x.toNat) ⟨o.length, rfl, Nat.le_refl _, fun q hq hm => by omega, h7⟩ ?_
      clear h7 h
      rintro x w9 ⟨m, rfl, hm, hgt, h⟩
      refine st_drew h fun w11 h11 => ?_
      refine bsplit_decide.2 ⟨fun h0 => ?_, fun h0 => ?_⟩
      · have hm1 : m - 1 < o.length := by omega
        have e2 : IntKind.i64.wrap ((m : Int) - 1) = ((m - 1 : Nat) : Int) := by rw [wrap_of (by omega) (by omega)]; omega
        rw [e2]
        have hoj := ho.mem (List.getElem_mem hm1)
        have hojl : o[m - 1] < xs.length := by omega
        refine ⟨by omega, by omega, st_own h11 2 rfl (by rw [List.length_map]; omega) fun b hb hc => ⟨((o[m - 1] : Nat) : Int), ?_, by omega, by omega, ?_⟩⟩
        · rw [add_mk]
          refine hc _ _ ?_
          simp only [Int.toNat_natCast, Nat.mul_one, Nat.zero_add]
          rw [List.getElem?_map, List.getElem?_eq_getElem hm1]; rfl
        · refine cells h11 hojl fun ad1 _ c1 => ⟨xs[o[m - 1]].ti, c1 2 (by omega), by omega, by omega, ?_⟩
          refine cells h11 hi' fun ad2 _ c2 => ⟨xs[i].ti, c2 2 (by omega), ?_⟩
          have t1 : tmX xs o[m - 1] = xs[o[m - 1]].ti := by unfold tmX; rw [List.getElem?_eq_getElem hojl]
          have t2 : tmX xs i = xs[i].ti := by unfold tmX; rw [List.getElem?_eq_getElem hi']
          refine bsplit_decide.2 ⟨fun q => ?_, fun q => ?_⟩
          · refine ⟨⟨m - 1, rfl, by omega, fun r hr hmr => ?_, h11⟩, by omega⟩
            by_cases e : r = m - 1
            · subst e; rw [t1, t2]; exact q
            · exact hgt r hr (by omega)
          · exact fin hm (fun _ _ => by rw [t1, t2]; omega) hgt h11
      · exact fin hm (fun _ h => by omega) hgt h11
  · obtain rfl : i = xs.length := by omega
    exact hk o s w2 ho h
/-! ### Replay -/
def replL (xs : List HX) (o : List Nat) : List (List UInt8) := o.foldl (fun L j => runL L (psX xs j)) (List.replicate 20 [])
theorem replL_length (xs : List HX) (o : List Nat) : (replL xs o).length = 20 := by
  unfold replL
  have : ∀ (o : List Nat) (L : List (List UInt8)), L.length = 20 → (o.foldl (fun L j => runL L (psX xs j)) L).length = 20 := by
    intro o
    induction o with
    | nil => intro L h; exact h
    | cons j r ih => intro L h; exact ih _ (by rw [runL_length]; exact h)
  exact this o _ (by simp)
theorem replay_c {xs : List HX} {hsv : SV} {F : Heap → Prop} {R : HP} {w : World} {K : Option Addr × Int → World → Prop} (hF : Mono F) (hA : KRow F 7 hsv (xs.flatMap histC)) (hkp : ∀ x ∈ xs, KPuts F x.ws x.ps) (hok : ∀ j, wroteAt xs j = true → RunOk 20 (psX xs j) ∧ (psX xs j).length ≤ 2 ^ 20) (hn : xs.length ≤ 2 ^ 20) (h : St [pool F, R] w)
    (hk : ∀ o p F' w', Ord xs xs.length o → (∀ h, F' h → F h) → MM p F' (replL xs o) R w' → K (some ⟨p, 0, none⟩, 0) w') : c_scarpref20_Replay 20 hsv w K := by
  refine scarpref20_Replay_go ?_
  unfold f_scarpref20_Replay
  have hC : ∀ x, (histC x).length = 7 := fun _ => rfl
  have hhn := KRow.n hA hC (by omega)
  refine new20_c hF h fun p w2 h2 => bsplit_iff.2 ⟨fun e => (by simp at e), fun _ => ?_⟩
  obtain ⟨_, sL, ds, hds, hkn, h3⟩ := h2
  refine order_c (R := MO p sL * (MR sL ds * R)) hF hA hn (h3.to (by simp only [bigS, List.foldr, mul_one'])) fun o so w4 ho h4 => ?_
  have h5 : MM p F (replL xs []) (ownS 1 so (o.map nv) * R) w4 := ⟨hF, sL, ds, hds, hkn, h4.to (by simp only [bigS, List.foldr, mul_one']; ac_rfl)⟩
  have hol : o.length ≤ xs.length := by
    have := ho.perm.length_eq
    have h2 := List.length_filter_le (wroteAt xs) (List.range xs.length)
    rw [List.length_range] at h2; omega
  have hson := st_len h4 2 rfl
  rw [List.length_map] at hson
  refine loop_i (fun (x : Option Addr × Int × Int) w' => ∃ (i : Nat) (F' : Heap → Prop), x.2.2 = i ∧ i ≤ o.length ∧ (∀ h, F' h → F h) ∧ MM p F' (replL xs (o.take i)) (ownS 1 so (o.map nv) * R) w') (fun x _ => (o.length - x.2.2).toNat) ⟨0, F, rfl, by omega, fun _ h => h, h5⟩ ?_
  clear h5 h4 h3 hkn hds
  rintro ⟨y1, y2, x⟩ w6 ⟨i, F', hx, hi, hsub, h⟩
  simp only at hx; subst hx
  dsimp only
  have e1 : IntKind.i64.wrap ((i : Int) + 1) = ((i + 1 : Nat) : Int) := by rw [wrap_of (by omega) (by omega)]; omega
  refine bsplit_decide.2 ⟨fun hlt => ?_, fun hge => ?_⟩
  · have hi' : i < o.length := by omega
    have hoj := ho.mem (List.getElem_mem hi')
    have hps : psX xs o[i] = xs[o[i]].ps := by unfold psX; rw [List.getElem?_eq_getElem hoj.1]
    obtain ⟨ok1, ok2⟩ := hok _ hoj.2
    obtain ⟨hF', sL', ds', hds', hkn', h3⟩ := id h
    have h4 : St [pool F', MO p sL', MR sL' ds', ownS 1 so (o.map nv), R] w6 := h3.to (by simp only [bigS, List.foldr, mul_one'])
    refine ⟨by omega, by omega, st_own h4 3 rfl (by rw [List.length_map]; omega) fun b hb hc => ⟨((o[i] : Nat) : Int), ?_, by omega, by omega, ?_⟩⟩
    · rw [add_mk]
      refine hc _ _ ?_
      simp only [Int.toNat_natCast, Nat.mul_one, Nat.zero_add]
      rw [List.getElem?_map, List.getElem?_eq_getElem hi']; rfl
    · obtain ⟨ad, ha, _, c⟩ := KRow.get hA hC (by omega) (hsub _ (st_pool hF' h4 0 rfl)) hoj.1
      refine onP_i ha ⟨xs[o[i]].ws, c 6 (by omega), ?_⟩
      rw [hps] at ok1 ok2
      refine run20_c h ((hkp _ (List.getElem_mem hoj.1)).more hsub) (by rw [replL_length]; exact ok1) (by omega) fun F2 w13 hs2 h13 => bsplit_iff.2 ⟨fun e => (by simp at e), fun _ => ?_⟩
      rw [withI_iff, e1]
      refine ⟨⟨i + 1, F2, rfl, by omega, fun h hh => hsub h (hs2 h hh), ?_⟩, by first | omega | (simp only; omega)⟩
      have : replL xs (o.take (i + 1)) = runL (replL xs (o.take i)) xs[o[i]].ps := by
        unfold replL
        rw [List.take_succ_eq_append_getElem hi', List.foldl_append, List.foldl_cons, List.foldl_nil, hps]
      rw [this]; exact h13
  · obtain rfl : i = o.length := by omega
    rw [List.take_length] at h
    obtain ⟨hF', sL', ds', hds', hkn', h3⟩ := h
    have h4 : St [pool F', MO p sL', MR sL' ds', ownS 1 so (o.map nv), R] w6 := h3.to (by simp only [bigS, List.foldr, mul_one'])
    exact hk o p F' w6 ho hsub ⟨hF', sL', ds', hds', hkn', h4.cut 3 (by simp)⟩
end Go.Proofs.YtbolgpjcmchfoaaGreat
