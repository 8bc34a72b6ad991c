/- The verification condition is sound: the operations that make memory, write it, or call. -/
import Derived.Test.YtbolgpjcmchfoaaGreatVp
namespace Go.Vc
open Go
section
variable {P : Program} {T : Tab}
theorem zrow_length (z : List Value) : ∀ n, (zrow z n).length = n * z.length
  | 0 => by simp [zrow]
  | n + 1 => by simp [zrow, zrow_length z n, Nat.succ_mul, Nat.add_comm]
theorem zrow_get (z : List Value) : ∀ (n i : Nat), i < n * z.length → (zrow z n)[i]? = z[i % z.length]?
  | 0, i, h => by simp at h
  | n + 1, i, h => by
    simp only [zrow]
    by_cases hi : i < z.length
    · rw [List.getElem?_append_left hi, Nat.mod_eq_of_lt hi]
    · rw [List.getElem?_append_right (by omega)]
      have : i - z.length < n * z.length := by rw [Nat.succ_mul] at h; omega
      rw [zrow_get z n _ this]
      conv => rhs; rw [show i = (i - z.length) + z.length by omega, Nat.add_mod_right]
theorem range_zrow (z : List Value) (n : Nat) : ((Array.range (n * z.length)).map fun i => z.toArray[i % z.toArray.size]!) = (zrow z n).toArray := by
  apply Array.ext'
  apply List.ext_getElem?
  intro i
  simp only [Array.toList_map, Array.toList_range, List.getElem?_map]
  by_cases h : i < n * z.length
  · rw [zrow_get z n i h]
    have hz : 0 < z.length := by
      rcases Nat.eq_zero_or_pos z.length with e | e
      · rw [e] at h; omega
      · exact e
    have hm : i % z.length < z.length := Nat.mod_lt _ hz
    simp [h, hm]
  · rw [List.getElem?_eq_none (by simp; omega), List.getElem?_eq_none (by rw [zrow_length]; omega)]; rfl
theorem zcells_length (i : TInfo) : i.zcells.length = i.sh.length := by simp [TInfo.zcells]
theorem zero_cells {t : Nat} {i : TInfo} (ok : TyOk P t i) : i.zero.cells = i.zcells.toArray := by
  cases ha : i.isAgg
  · obtain ⟨s, hs, _, hz⟩ := ty_cell ok ha
    rw [hz]; unfold TInfo.zcells; rw [hs]
    cases s <;> rfl
  · unfold TInfo.isAgg at ha; unfold TInfo.zero
    split at ha <;> rename_i hk <;> first | (rw [hk]; rfl) | cases ha
theorem run_newObj (o : Obj) (w : World) : (newObj o).run P w = .ok w.heap.size (w.alloc o) := rfl
theorem run_newVar (t : Nat) (v : Value) (w : World) : (newVar t v).run P w = .ok ⟨w.heap.size, 0, none⟩ (w.alloc (.cells v.cells t)) := by
  unfold newVar newRow
  rw [bind_ok (run_newObj _ w)]; rfl
theorem run_setObj {w : World} {r : Nat} {o o' : Obj} (h : w.heap[r]? = some o') (hc : ∀ c e f, o' ≠ .cells c e f) : (setObj r o).run P w = .ok () (World.setObj w r o) := by
  unfold setObj
  cases o' <;> first
    | (exact absurd rfl (hc _ _ _))
    | (simp only [Sem.run, h]; rfl)
theorem set_modify : ∀ (es : List En) (k : Int) (v : Value) (kd : IntKind) (i : Nat) (u : Value) (j : Nat), findI es k j = some (i, u) → j ≤ i ∧
    (∃ e, es[i - j]? = some e ∧ e.k = k) ∧ (es.map (En.e kd)).modify (i - j) (fun e => { e with key := .int kd k, val := v }) = (setE es k v).map (En.e kd) ∧ hasE es k = true
  | [], _, _, _, _, _, _, h => by simp [findI] at h
  | e :: r, k, v, kd, i, u, j, h => by
    unfold findI at h
    by_cases hk : k = e.k
    · simp only [hk, if_true, Option.some.injEq, Prod.mk.injEq] at h
      obtain ⟨rfl, rfl⟩ := h
      refine ⟨Nat.le_refl _, ⟨e, by simp, hk.symm⟩, ?_, by simp [hasE, hk]⟩
      simp [setE, hk, En.e]
    · simp only [hk, if_false] at h
      obtain ⟨h1, ⟨x, hx, hxk⟩, h2, h3⟩ := set_modify r k v kd i u (j + 1) h
      have : i - j = (i - (j + 1)) + 1 := by omega
      refine ⟨by omega, ⟨x, by rw [this]; simpa using hx, hxk⟩, ?_, by simp [hasE, hk, h3]⟩
      rw [this]
      simp only [List.map_cons, List.modify_succ_cons, setE, hk, if_false]
      rw [h2]
theorem findI_none : ∀ (es : List En) (k : Int) (j : Nat), findI es k j = none → hasE es k = false
  | [], _, _, _ => rfl
  | e :: r, k, j, h => by
    unfold findI at h
    by_cases hk : k = e.k
    · simp [hk] at h
    · simp only [hk, if_false] at h
      simp [hasE, hk, findI_none r k _ h]
theorem run_mapUpdate {t kt e : Nat} {sh shk : List Sh} {b bk : Nat} {q kd : IntKind} (ok : TyOk P t ⟨.map kt e, sh, b⟩) (okk : TyOk P kt ⟨.int q, shk, bk⟩) {r : Nat} {es : List En} {clock : Nat} {w : World} (hm : mapAt w r kd es clock) (k : Int) (v : Value) :
    (Instr.mapUpdate t (.map (some r)) (.int kd k) v).run P w = .ok () (World.setObj w r (.map (entries kd (putM es clock k v)) (putClock es clock k))) := by
  have hu : P.underlying t = some (.map kt e) := ok.und
  have huk : P.underlying kt = some (.int q) := okk.und
  unfold Instr.mapUpdate
  rw [bind_ok (run_underlying hu w)]
  simp only []
  rw [bind_ok (run_getMap hm)]
  simp only []
  rw [bind_ok (run_checkKey huk _ k w)]
  have hf := run_findKey (kd := kd) huk k es w
  rw [show (entries kd es).toList = es.map (En.e kd) by simp [entries], bind_ok hf]
  cases hi : findI es k 0 with
  | none =>
    have hh := findI_none es k 0 hi
    simp only []
    rw [run_setObj hm (by simp)]
    congr 2
    simp [putM, putClock, hh, entries, En.e]
  | some p =>
    obtain ⟨i, u⟩ := p
    obtain ⟨_, ⟨x, hx, hxk⟩, h2, h3⟩ := set_modify es k v kd i u 0 hi
    simp only [Nat.sub_zero] at hx h2
    simp only []
    have hkey : (((entries kd es)[i]?).map (·.key)).getD (.int kd k) = .int kd k := by
      simp [entries, hx, En.e, hxk]
    rw [hkey]
    have hstay : (Instr.keyThatStays (.int kd k) (.int kd k)).run P w = .ok (.int kd k) w := by
      unfold Instr.keyThatStays
      have : Instr.sameBits 10000 (.int kd k) (.int kd k) = true := by
        rw [show (10000 : Nat) = 9999 + 1 from rfl]; simp [Instr.sameBits]
      simp only [this, if_true]; rfl
    rw [bind_ok hstay, run_setObj hm (by simp)]
    congr 2
    simp only [putM, putClock, h3, if_true]
    congr 1
    apply Array.ext'
    simp only [entries]
    rw [Array.toList_modify]
    exact h2
theorem del_erase : ∀ (es : List En) (k : Int) (kd : IntKind) (i : Nat) (u : Value) (j : Nat), findI es k j = some (i, u) → j ≤ i ∧ (es.map (En.e kd)).eraseIdx (i - j) = (delE es k).map (En.e kd)
  | [], _, _, _, _, _, h => by simp [findI] at h
  | e :: r, k, kd, i, u, j, h => by
    unfold findI at h
    by_cases hk : k = e.k
    · simp only [hk, if_true, Option.some.injEq, Prod.mk.injEq] at h
      obtain ⟨rfl, rfl⟩ := h
      exact ⟨Nat.le_refl _, by simp [delE, hk]⟩
    · simp only [hk, if_false] at h
      obtain ⟨h1, h2⟩ := del_erase r k kd i u (j + 1) h
      have : i - j = (i - (j + 1)) + 1 := by omega
      refine ⟨by omega, ?_⟩
      rw [this]
      simp only [List.map_cons, List.eraseIdx_cons_succ, delE, hk, if_false]
      rw [h2]
theorem findI_none_del : ∀ (es : List En) (k : Int) (j : Nat), findI es k j = none → delE es k = es
  | [], _, _, _ => rfl
  | e :: r, k, j, h => by
    unfold findI at h
    by_cases hk : k = e.k
    · simp [hk] at h
    · simp only [hk, if_false] at h
      simp [delE, hk, findI_none_del r k _ h]
theorem run_delete {t kt e : Nat} {sh shk : List Sh} {b bk : Nat} {q kd : IntKind} (ok : TyOk P t ⟨.map kt e, sh, b⟩) (okk : TyOk P kt ⟨.int q, shk, bk⟩) {r : Nat} {es : List En} {clock : Nat} {w : World} (hm : mapAt w r kd es clock) (k : Int) (ats : Array TypeId) (hat : ats[0]? = some t) (ty : TypeId) :
    (Builtin.delete_ ats ty #[.map (some r), .int kd k]).run P w = .ok (.tuple #[]) (World.setObj w r (.map (entries kd (delE es k)) clock)) := by
  have hu : P.underlying t = some (.map kt e) := ok.und
  have huk : P.underlying kt = some (.int q) := okk.und
  unfold Builtin.delete_
  simp only [hat, List.getElem?_toArray, List.getElem?_cons_zero, List.getElem?_cons_succ]
  rw [bind_ok (run_underlying hu w)]
  simp only []
  rw [bind_ok (run_getMap hm)]
  simp only []
  rw [bind_ok (run_checkKey huk _ k w)]
  have hf := run_findKey (kd := kd) huk k es w
  rw [show (entries kd es).toList = es.map (En.e kd) by simp [entries], bind_ok hf]
  cases hi : findI es k 0 with
  | none =>
    simp only []
    rw [bind_ok (run_setObj hm (by simp)), findI_none_del es k 0 hi]; rfl
  | some p =>
    obtain ⟨i, u⟩ := p
    obtain ⟨_, h2⟩ := del_erase es k kd i u 0 hi
    simp only [Nat.sub_zero] at h2
    simp only []
    have he : (entries kd es).eraseIdxIfInBounds i = entries kd (delE es k) := by
      apply Array.ext'
      rw [Array.toList_eraseIdxIfInBounds]
      simp only [entries]
      exact h2
    rw [bind_ok (run_setObj hm (by simp)), he]; rfl
theorem run_firstCells {w : World} {a : Option Addr} {n c c' size : Nat} {vs : List Value} (hl : vs.length = n * size) (h : ∀ ad, a = some ad → cellsAt w ad 0 vs) (h0 : a = none → n = 0) :
    (Builtin.firstCells size n (.slice a c' c)).run P w = .ok vs.toArray w := by
  cases a with
  | none =>
    have := h0 rfl
    subst this
    have : vs = [] := List.length_eq_zero_iff.1 (by simpa using hl)
    subst this; rfl
  | some ad =>
    unfold Builtin.firstCells
    exact run_loadCells hl (h ad rfl)
theorem cellsAt_heap {w w' : World} (h : w'.heap = w.heap) (a : Addr) : ∀ (vs : List Value) (i : Nat), cellsAt w a i vs → cellsAt w' a i vs
  | [], _, _ => trivial
  | [v], i, hc => by simp only [cellsAt, World.cell?, h] at *; exact hc
  | v :: u :: r, i, hc => by
    simp only [cellsAt] at *
    refine ⟨?_, cellsAt_heap h a (u :: r) (i + 1) hc.2⟩
    have := hc.1
    simp only [World.cell?, h] at *
    exact this
theorem run_append_fits {t t' e e' : Nat} {sh sh' : List Sh} {b b' : Nat} {ie : TInfo} (ok : TyOk P t ⟨.slice e, sh, b⟩) (ok' : TyOk P t' ⟨.slice e', sh', b'⟩) (oke : TyOk P e ie) {a x : Option Addr} {n c m d : Nat} {w : World} {news : List Value}
    (hn : news.length = m * ie.sh.length) (h1 : news.all one = true) (hx : ∀ ad, x = some ad → cellsAt w ad 0 news) (hx0 : x = none → m = 0) (hfit : n + m ≤ c)
    (hst : ∀ ad, a = some ad → storable w (ad.add (n * ie.sh.length)) 0 news) (ats : Array TypeId) (hat : ats[0]? = some t) (hat' : ats[1]? = some t') (ty : TypeId) :
    (Builtin.append_ ats ty #[.slice a n c, .slice x m d]).run P w = .ok (.slice a (n + m) c) (storeO a w (n * ie.sh.length) news) := by
  have hu : P.underlying t = some (.slice e) := ok.und
  have hu' : P.underlying t' = some (.slice e') := ok'.und
  unfold Builtin.append_
  simp only [hat, hat', List.getElem?_toArray, List.getElem?_cons_zero, List.getElem?_cons_succ]
  rw [bind_ok (run_underlying hu w)]
  simp only []
  rw [bind_ok (run_sizeOf oke w), bind_ok (run_underlying hu' w)]
  simp only []
  rw [bind_ok (run_pure P _ w)]
  simp only [Bool.false_eq_true, if_false, Bool.not_false, if_true]
  rw [bind_ok (show (Builtin.lenOf (.slice x m d)).run P w = .ok m w from rfl)]
  simp only [hfit, if_true]
  rw [bind_ok (run_firstCells hn hx hx0)]
  cases a with
  | none => rfl
  | some ad =>
    simp only []
    rw [bind_ok (run_storeCells news w 0 (hst ad rfl) h1)]; rfl
theorem choose_cap (need old : Nat) (e : TypeId) (w : World) (_ : need < 2 ^ 63) : ∃ cap, need ≤ cap ∧ (choose (.appendCap need old e)).run P w = .ok cap w.drew := by
  refine ⟨_, ?_, rfl⟩
  simp only [Question.cut]
  omega
theorem run_append_grows {t t' e e' : Nat} {sh sh' : List Sh} {b b' : Nat} {ie : TInfo} (ok : TyOk P t ⟨.slice e, sh, b⟩) (ok' : TyOk P t' ⟨.slice e', sh', b'⟩) (oke : TyOk P e ie) {a x : Option Addr} {n c m d : Nat} {w : World} {news olds : List Value}
    (hn : news.length = m * ie.sh.length) (hx : ∀ ad, x = some ad → cellsAt w ad 0 news) (hx0 : x = none → m = 0) (hfit : c < n + m)
    (hcap : newCapOk n m c ie.bytes) (hb : ie.bytes ≠ 0) (hol : olds.length = n * ie.sh.length) (ho : ∀ ad, a = some ad → cellsAt w ad 0 olds) (ha0 : a = none → n = 0)
    (ats : Array TypeId) (hat : ats[0]? = some t) (hat' : ats[1]? = some t') (ty : TypeId) :
    ∃ cap, n + m ≤ cap ∧ (Builtin.append_ ats ty #[.slice a n c, .slice x m d]).run P w = .ok (.slice (some ⟨w.heap.size, 0, none⟩) (n + m) cap) (w.alloc (.cells (olds ++ news ++ zrow ie.zcells (cap - (n + m))).toArray e)).drew := by
  have hu : P.underlying t = some (.slice e) := ok.und
  have hu' : P.underlying t' = some (.slice e') := ok'.und
  obtain ⟨ti, hti, _, hby, _⟩ := oke.info
  have hsmall : n + m < 2 ^ 63 := by
    unfold newCapOk at hcap
    have h1 : n + m ≤ Builtin.nextslicecap (n + m) c ∨ n + m ≤ 2 * c := by
      unfold Builtin.nextslicecap
      split
      · exact Or.inl (Nat.le_refl _)
      · exact Or.inr (by omega)
    have h2 : Builtin.nextslicecap (n + m) c ≤ 2 ^ 48 := by
      refine Nat.le_trans ?_ hcap
      exact Nat.le_mul_of_pos_right _ (by omega)
    have h3 : c ≤ Builtin.nextslicecap (n + m) c := by
      unfold Builtin.nextslicecap
      split
      · omega
      · split
        · omega
        · have hg : ∀ r q, q ≤ Builtin.growBy (n + m) r q := by
            intro r
            induction r with
            | zero => intro q; exact Nat.le_refl _
            | succ r ih =>
              intro q
              unfold Builtin.growBy
              split
              · exact Nat.le_refl _
              · exact Nat.le_trans (by omega) (ih _)
          exact hg 4 c
    rcases h1 with h1 | h1 <;> omega
  obtain ⟨cap, hle, hch⟩ := choose_cap (P := P) (n + m) c e w hsmall
  refine ⟨cap, hle, ?_⟩
  unfold Builtin.append_
  simp only [hat, hat', List.getElem?_toArray, List.getElem?_cons_zero, List.getElem?_cons_succ]
  rw [bind_ok (run_underlying hu w)]
  simp only []
  rw [bind_ok (run_sizeOf oke w), bind_ok (run_underlying hu' w)]
  simp only []
  rw [bind_ok (run_pure P _ w)]
  simp only [Bool.false_eq_true, if_false, Bool.not_false, if_true, false_or]
  rw [bind_ok (show (Builtin.lenOf (.slice x m d)).run P w = .ok m w from rfl)]
  rw [if_neg (by omega)]
  rw [bind_ok (run_typeInfo hti w), hby]
  rw [if_neg (by simp [hb])]
  rw [bind_ok (run_typeInfo hti w), hby]
  rw [if_neg (by unfold newCapOk at hcap; omega)]
  rw [bind_ok hch, bind_ok (run_typeInfo hti w.drew), hby]
  have hroom : ∀ k, (askRoom k).run P w.drew = .ok () w.drew := by
    intro k; unfold askRoom; split <;> rfl
  rw [bind_ok (hroom _)]
  rw [bind_ok (run_firstCells (w := w.drew) hol (fun ad e => cellsAt_heap (w := w) (w' := w.drew) rfl ad _ _ (ho ad e)) ha0)]
  rw [bind_ok (run_firstCells (w := w.drew) hn (fun ad e => cellsAt_heap (w := w) (w' := w.drew) rfl ad _ _ (hx ad e)) hx0)]
  rw [bind_ok (run_zeroValue oke w.drew)]
  unfold newRow
  have hz : Builtin.zeroCells ie.zero.cells (cap - (n + m)) = (zrow ie.zcells (cap - (n + m))).toArray := by
    unfold Builtin.zeroCells
    rw [zero_cells oke, ← range_zrow]
    simp
  rw [hz]
  have hrow : (olds.toArray ++ news.toArray ++ (zrow ie.zcells (cap - (n + m))).toArray) = (olds ++ news ++ zrow ie.zcells (cap - (n + m))).toArray := by
    apply Array.ext'; simp
  rw [hrow]
  rfl
theorem run_append_zeros {t t' e : Nat} {q : IntKind} {sh sh' : List Sh} {b b' : Nat} {ie : TInfo} (ok : TyOk P t ⟨.slice e, sh, b⟩) (ok' : TyOk P t' ⟨.int q, sh', b'⟩) (oke : TyOk P e ie) {a : Option Addr} {n c m : Nat} {w : World} {olds : List Value}
    (hm : m ≤ 2 ^ 48) (hmb : m * ie.bytes ≤ 2 ^ 48) (hn48 : n ≤ 2 ^ 48) (hfit : c < n + m)
    (hcap : newCapOk n m c ie.bytes) (_ : ie.bytes ≠ 0) (hol : olds.length = n * ie.sh.length) (ho : ∀ ad, a = some ad → cellsAt w ad 0 olds) (ha0 : a = none → n = 0)
    (ats : Array TypeId) (hat : ats[0]? = some t) (hat' : ats[1]? = some t') (ty : TypeId) :
    ∃ cap, n + m ≤ cap ∧ (Builtin.append_ ats ty #[.slice a n c, .int .i64 m]).run P w = .ok (.slice (some ⟨w.heap.size, 0, none⟩) (n + m) cap) (w.alloc (.cells (olds ++ zrow ie.zcells m ++ zrow ie.zcells (cap - (n + m))).toArray e)).drew := by
  have hu : P.underlying t = some (.slice e) := ok.und
  have hu' : P.underlying t' = some (.int q) := ok'.und
  obtain ⟨ti, hti, _, hby, _⟩ := oke.info
  have hsmall : n + m < 2 ^ 63 := by omega
  obtain ⟨cap, hle, hch⟩ := choose_cap (P := P) (n + m) c e w hsmall
  refine ⟨cap, hle, ?_⟩
  unfold Builtin.append_
  simp only [hat, hat', List.getElem?_toArray, List.getElem?_cons_zero, List.getElem?_cons_succ]
  rw [bind_ok (run_underlying hu w)]
  simp only []
  rw [bind_ok (run_sizeOf oke w), bind_ok (run_underlying hu' w)]
  simp only []
  rw [bind_ok (run_pure P _ w)]
  simp only [Bool.not_true, Bool.false_eq_true, if_true, if_false]
  have hwm : IntKind.i64.wrap (m : Int) = m := by
    have e : IntKind.i64.wrap (m : Int) = if (9223372036854775808 : Int) ≤ (m : Int) % 18446744073709551616 then (m : Int) % 18446744073709551616 - 18446744073709551616 else (m : Int) % 18446744073709551616 := by
      simp [IntKind.wrap, IntKind.bits, IntKind.signed]
    rw [e]; split <;> omega
  rw [bind_ok (show (asInt (.int .i64 (m : Int))).run P w = .ok (m : Int) w from rfl)]
  simp only [hwm]
  rw [if_neg (show ¬ (m : Int) < 0 by omega)]
  rw [bind_ok (run_typeInfo hti w), hby]
  have hmb' : ¬ (m : Int) * (ie.bytes : Int) > 2 ^ 48 := by
    have : ((m * ie.bytes : Nat) : Int) = (m : Int) * (ie.bytes : Int) := by simp
    omega
  rw [if_neg hmb']
  rw [bind_ok (run_pure P _ w)]
  simp only [Int.toNat_natCast]
  rw [if_neg (by omega)]
  rw [bind_ok (run_typeInfo hti w), hby]
  rw [if_neg (by simp [IntKind.max, IntKind.bits, IntKind.signed]; omega)]
  rw [bind_ok (run_typeInfo hti w), hby]
  rw [if_neg (by unfold newCapOk at hcap; omega)]
  rw [bind_ok hch, bind_ok (run_typeInfo hti w.drew), hby]
  have hroom : ∀ k, (askRoom k).run P w.drew = .ok () w.drew := by
    intro k; unfold askRoom; split <;> rfl
  rw [bind_ok (hroom _)]
  rw [bind_ok (run_firstCells (w := w.drew) hol (fun ad e => cellsAt_heap (w := w) (w' := w.drew) rfl ad _ _ (ho ad e)) ha0)]
  have hzm : Builtin.zeroCells ie.zero.cells m = (zrow ie.zcells m).toArray := by
    unfold Builtin.zeroCells
    rw [zero_cells oke, ← range_zrow]
    simp
  have hnew : (if m * ie.sh.length = 0 then pure #[] else do
      let z ← zeroValue e
      pure (Builtin.zeroCells z.cells m) : Sem (Array Value)).run P w.drew = .ok (zrow ie.zcells m).toArray w.drew := by
    split
    · rename_i h0
      have : zrow ie.zcells m = [] := by rw [← List.length_eq_zero_iff, zrow_length, zcells_length]; exact h0
      rw [this]; rfl
    · rw [bind_ok (run_zeroValue oke w.drew), hzm]; rfl
  rw [bind_ok hnew]
  rw [bind_ok (run_zeroValue oke w.drew)]
  unfold newRow
  have hz : Builtin.zeroCells ie.zero.cells (cap - (n + m)) = (zrow ie.zcells (cap - (n + m))).toArray := by
    unfold Builtin.zeroCells
    rw [zero_cells oke, ← range_zrow]
    simp
  rw [hz]
  have hrow : (olds.toArray ++ (zrow ie.zcells m).toArray ++ (zrow ie.zcells (cap - (n + m))).toArray) = (olds ++ zrow ie.zcells m ++ zrow ie.zcells (cap - (n + m))).toArray := by
    apply Array.ext'; simp
  rw [hrow]
  rfl
theorem run_copy {t e : Nat} {sh : List Sh} {b : Nat} {ie : TInfo} (ok : TyOk P t ⟨.slice e, sh, b⟩) (oke : TyOk P e ie) {a x : Option Addr} {n c m d : Nat} {w : World} {news : List Value}
    (hn : news.length = min m n * ie.sh.length) (h1 : news.all one = true) (hx : ∀ ad, x = some ad → cellsAt w ad 0 news) (hx0 : x = none → m = 0)
    (hst : ∀ ad, a = some ad → storable w ad 0 news) (ats : Array TypeId) (hat : ats[0]? = some t) (ty : TypeId) :
    (Builtin.copy_ ats ty #[.slice a n c, .slice x m d]).run P w = .ok (.int .i64 (min m n : Nat)) (storeO a w 0 news) := by
  have hu : P.underlying t = some (.slice e) := ok.und
  unfold Builtin.copy_
  simp only [hat, List.getElem?_toArray, List.getElem?_cons_zero, List.getElem?_cons_succ]
  rw [bind_ok (run_underlying hu w)]
  simp only []
  rw [bind_ok (show (Builtin.lenOf (.slice x m d)).run P w = .ok m w from rfl)]
  rw [bind_ok (run_sizeOf oke w)]
  rw [bind_ok (run_firstCells (n := min m n) hn hx (fun e => by rw [hx0 e]; omega))]
  cases a with
  | none => rfl
  | some ad =>
    simp only []
    rw [bind_ok (run_storeCells news w 0 (hst ad rfl) h1)]; rfl
theorem wrap_i64 {x : Int} (h : -9223372036854775808 ≤ x) (h' : x ≤ 9223372036854775807) : IntKind.i64.wrap x = x := by
  have e : IntKind.i64.wrap x = if (9223372036854775808 : Int) ≤ x % 18446744073709551616 then x % 18446744073709551616 - 18446744073709551616 else x % 18446744073709551616 := by
    unfold IntKind.wrap; simp [IntKind.bits, IntKind.signed]
  rw [e]; split <;> omega
theorem run_makeSlice {t e : Nat} {sh : List Sh} {b : Nat} {ie : TInfo} (ok : TyOk P t ⟨.slice e, sh, b⟩) (oke : TyOk P e ie) {l c : Int} (h0 : 0 ≤ l) (h1 : l ≤ c) (h2 : (ie.bytes : Int) * c ≤ 2 ^ 48) (h3 : c ≤ 2 ^ 48) (w : World) :
    (Instr.makeSlice t (.int .i64 l) (.int .i64 c)).run P w = .ok (.slice (some ⟨w.heap.size, 0, none⟩) l.toNat c.toNat) (w.alloc (.cells (zrow ie.zcells c.toNat).toArray e)) := by
  have hu : P.underlying t = some (.slice e) := ok.und
  obtain ⟨ti, hti, _, hby, _⟩ := oke.info
  have hw : ∀ x : Int, 0 ≤ x → x ≤ 2 ^ 48 → IntKind.i64.wrap x = x := fun x hx hx' => wrap_i64 (by omega) (by omega)
  unfold Instr.makeSlice
  rw [bind_ok (run_underlying hu w)]
  simp only []
  rw [bind_ok (show (asInt (.int .i64 l)).run P w = .ok l w from rfl), bind_ok (show (asInt (.int .i64 c)).run P w = .ok c w from rfl), bind_ok (run_typeInfo hti w), hby]
  simp only [hw l h0 (by omega), hw c (by omega) h3]
  rw [if_neg (by simp; omega)]
  have hroom : ∀ k, (askRoom k).run P w = .ok () w := by
    intro k; unfold askRoom; split <;> rfl
  rw [bind_ok (hroom _), bind_ok (run_sizeOf oke w)]
  by_cases hz : c.toNat * ie.sh.length = 0
  · rw [if_pos hz, bind_ok (run_pure P _ w)]
    have e1 : zrow ie.zcells c.toNat = [] := List.length_eq_zero_iff.1 (by rw [zrow_length, zcells_length]; exact hz)
    have e2 : ∀ f : Nat → Value, (Array.range 0).map f = #[] := fun f => by simp
    rw [hz, e1, e2]
    rfl
  · rw [if_neg hz]
    rw [bind_ok (run_zeroValue oke w), bind_ok (run_pure P _ w), zero_cells oke, ← zcells_length ie, range_zrow]
    rfl
/-! ranging over a map -/
theorem mem_entries {kd : IntKind} {es : List En} {m : MapEntry} : m ∈ entries kd es ↔ ∃ e ∈ es, En.e kd e = m := by
  simp [entries]
theorem run_next {w : World} {ad : Addr} (h0 : ad.off = 0) {m since st clock : Nat} {seen : Array Nat} {es : List En} {kd : IntKind} (hi : w.heap[ad.block]? = some (.mapIter (some m) since seen st)) (hm : mapAt w m kd es clock)
    (hg : seen = #[] ∨ es = [] ∨ ∃ e ∈ es, e.b < st) (t : TypeId) :
    ∃ w1, (w1 = w ∨ w1 = w.drew) ∧
      ((∃ e ∈ es, e.b ∉ seen ∧ (Instr.next (.pointer (some ad)) false t).run P w = .ok (.tuple #[.bool true, .int kd e.k, e.v]) (World.setObj w1 ad.block (.mapIter (some m) since (seen.push e.b) clock))) ∨
       ((∀ e ∈ es, e.b < since → e.b ∈ seen) ∧ (Instr.next (.pointer (some ad)) false t).run P w = .ok (.tuple #[.bool false]) w1)) := by
  obtain ⟨b, off, spot⟩ := ad
  simp only at h0 hi
  subst h0
  have hgo : (Instr.next (.pointer (some ⟨b, 0, spot⟩)) false t) = (do
      match ← getObj b, false with
      | .stringIter s pos, true =>
        if pos < s.size then
          let (c, width) := Utf8.decode s pos
          setObj b (.stringIter s (pos + width))
          pure (.tuple #[.bool true, goInt pos, .int .i32 c])
        else pure (.tuple #[.bool false])
      | .mapIter none _ _ _, false => pure (.tuple #[.bool false])
      | .mapIter (some m) since seen last, false =>
        let .map es clock ← getObj m | stuck "Next: map expected"
        if !seen.isEmpty && !es.isEmpty && es.all (·.born ≥ last) then
          unsupported (.noEntry "instr/Next: every entry that the ranged map held at the last iteration is gone, and it holds new ones")
        let left := es.filter fun e => !seen.contains e.born
        let old := left.filter (·.born < since)
        let new := left.filter (·.born ≥ since)
        let candidates := (if old.isEmpty then #[none] else #[]) ++ (old ++ new).map some
        match candidates[← choose (.mapNext candidates.size)]? with
        | some (some e) =>
          setObj b (.mapIter (some m) since (seen.push e.born) clock)
          pure (.tuple #[.bool true, e.key, e.val])
        | some none => pure (.tuple #[.bool false])
        | none => stuck "Next: no such candidate"
      | _, _ => stuck "Next: iterator of the other kind") := rfl
  have hguard : (!seen.isEmpty && !(entries kd es).isEmpty && (entries kd es).all (·.born ≥ st)) = false := by
    rcases hg with rfl | rfl | ⟨e, he, hlt⟩
    · rfl
    · simp [entries]
    · have : (entries kd es).all (·.born ≥ st) = false := by
        rw [Array.all_eq_false']
        exact ⟨En.e kd e, mem_entries.2 ⟨e, he, rfl⟩, by simp [En.e]; exact hlt⟩
      simp [this]
  generalize hleft : ((entries kd es).filter fun e => !seen.contains e.born) = left at *
  have hmemL : ∀ x, x ∈ left ↔ (∃ e ∈ es, En.e kd e = x ∧ e.b ∉ seen) := by
    intro x
    rw [← hleft, Array.mem_filter, mem_entries]
    constructor
    · rintro ⟨⟨e, he, rfl⟩, hx⟩; exact ⟨e, he, rfl, by simpa [En.e] using hx⟩
    · rintro ⟨e, he, rfl, hx⟩; exact ⟨⟨e, he, rfl⟩, by simpa [En.e] using hx⟩
  generalize hcand : ((if (left.filter (·.born < since)).isEmpty then #[none] else #[]) ++ ((left.filter (·.born < since)) ++ (left.filter (·.born ≥ since))).map some) = cand
  have hmemC : ∀ x, some x ∈ cand ↔ x ∈ left := by
    intro x
    rw [← hcand]
    by_cases hx : x.born < since
    · split <;> simp [hx, Nat.not_le.2 hx]
    · split <;> simp [hx, Nat.not_lt.1 hx]
  have hnone : none ∈ cand → ∀ e ∈ es, e.b < since → e.b ∈ seen := by
    intro hn e he hlt
    rw [← hcand] at hn
    by_cases hempty : (left.filter (·.born < since)).isEmpty = true
    · by_cases hs : e.b ∈ seen
      · exact hs
      · have : En.e kd e ∈ left.filter (·.born < since) := by
          rw [Array.mem_filter]
          exact ⟨(hmemL _).2 ⟨e, he, rfl, hs⟩, decide_eq_true hlt⟩
        rw [Array.isEmpty_iff.1 hempty] at this
        simp at this
    · rw [if_neg hempty] at hn
      simp at hn
  have hpos : 0 < cand.size := by
    rw [← hcand]
    by_cases hempty : (left.filter (·.born < since)).isEmpty = true
    · rw [if_pos hempty]; simp; omega
    · rw [if_neg hempty]
      have : 0 < (left.filter (·.born < since)).size := by
        rcases Nat.eq_zero_or_pos (left.filter (·.born < since)).size with e | e
        · exact absurd (by simpa [Array.isEmpty] using e) hempty
        · exact e
      simp; omega
  have hch : ∃ (c : Nat) (w1 : World), c < cand.size ∧ (w1 = w ∨ w1 = w.drew) ∧ (choose (.mapNext cand.size)).run P w = .ok c w1 := by
    by_cases hf : cand.size ≤ 1
    · refine ⟨0, w, hpos, Or.inl rfl, ?_⟩
      unfold choose
      simp only [Sem.run, Question.forced, hf, decide_true, if_true]
    · refine ⟨w.tape w.drawn (.mapNext cand.size) % cand.size, w.drew, Nat.mod_lt _ hpos, Or.inr rfl, ?_⟩
      unfold choose
      simp only [Sem.run, Question.forced, hf, decide_false, Bool.false_eq_true, if_false]
      rfl
  obtain ⟨c, w1, hc, hw1, hrun⟩ := hch
  refine ⟨w1, hw1, ?_⟩
  have hheap : w1.heap = w.heap := by rcases hw1 with rfl | rfl <;> rfl
  rw [hgo]
  rw [bind_ok (run_getObj hi (by simp))]
  simp only []
  rw [bind_ok (run_getMap hm)]
  simp only [hguard, Bool.false_eq_true, if_false]
  simp only [hleft]
  rw [hcand]
  rw [bind_ok hrun]
  have hget : cand[c]? = some cand[c] := by simp [hc]
  rw [hget]
  cases hx : cand[c] with
  | none =>
    have hmem : none ∈ cand := by rw [← hx]; exact Array.getElem_mem hc
    exact Or.inr ⟨hnone hmem, rfl⟩
  | some x =>
    have hmem : some x ∈ cand := by rw [← hx]; exact Array.getElem_mem hc
    obtain ⟨e, he, rfl, hs⟩ := (hmemL x).1 ((hmemC x).1 hmem)
    refine Or.inl ⟨e, he, hs, ?_⟩
    simp only []
    rw [bind_ok (run_setObj (w := w1) (o' := .mapIter (some m) since seen st) (by rw [hheap]; exact hi) (by simp))]
    rfl
theorem run_entry {w : World} {ad : Addr} (h0 : ad.off = 0) {m since st : Nat} {seen : Array Nat} {es : List En} {kd : IntKind} (hi : w.heap[ad.block]? = some (.mapIter (some m) since seen st)) (hm : mapAt w m kd es st) {e : En}
    (hs : seen.back? = some e.b) (he : e ∈ es) (hu : ∀ f ∈ es, f.b = e.b → f = e) : (Instr.entry (.pointer (some ad))).run P w = .ok (.tuple #[.int kd e.k, e.v]) w := by
  obtain ⟨b, off, spot⟩ := ad
  simp only at h0 hi
  subst h0
  have hgo : (Instr.entry (.pointer (some ⟨b, 0, spot⟩))) = (do
      let .mapIter (some m) _ seen stepped ← getObj b | stuck "Entry: an iterator over a map that is not nil expected"
      let some stamp := seen.back? | stuck "Entry: no step yet"
      let .map es clock ← getObj m | stuck "Entry: map expected"
      if clock != stepped then unsupported (.noEntry "instr/Entry: an insertion since the step")
      match es.find? (·.born == stamp) with
      | some e => pure (.tuple #[e.key, e.val])
      | none => unsupported (.noEntry "instr/Entry.removed")) := rfl
  rw [hgo, bind_ok (run_getObj hi (by simp))]
  simp only [hs]
  rw [bind_ok (run_getMap hm)]
  have hf : (entries kd es).find? (·.born == e.b) = some (En.e kd e) := by
    cases hq : (entries kd es).find? (·.born == e.b) with
    | none =>
      rw [Array.find?_eq_none] at hq
      exact absurd (hq (En.e kd e) (mem_entries.2 ⟨e, he, rfl⟩)) (by simp [En.e])
    | some x =>
      have h1 := Array.find?_some hq
      have h2 := Array.mem_of_find?_eq_some hq
      obtain ⟨f, hf, rfl⟩ := mem_entries.1 h2
      have : f.b = e.b := by simpa [En.e] using h1
      rw [hu f hf this]
  simp only [bne_self_eq_false, Bool.false_eq_true, if_false, hf]
  rfl
end
end Go.Vc
