/- The verification condition is sound: the operations that only look. -/
import Derived.Test.YtbolgpjcmchfoaaGreatVs
namespace Go.Vc
open Go
section
variable {P : Program} {T : Tab}
theorem run_v {m : Sem Value} {w w' : World} {v : Value} (h : m.run P w = .ok v w') : (do pure (Next.value (← m)) : Sem Next).run P w = .ok (.value v) w' := by
  rw [bind_ok h]; rfl
theorem run_asBool (b : Bool) (w : World) : (asBool (.bool b)).run P w = .ok b w := rfl
theorem kind_eq {k k' : IntKind} {a b : Int} (h : sameKind (.int k a) (.int k' b) = true) : k = k' := by
  simp only [sameKind] at h
  split at h
  · assumption
  · cases h
theorem run_eqGuard {op : BinOp} {t : TypeId} {x y : Operand} {a b : Value} (h : ∀ cs ds, ¬ (a = .agg cs ∧ b = .agg ds)) (h' : ¬ (a = .nilIface ∧ b = .nilIface)) (w : World) : (eqGuard op t x y a b).run P w = .ok () w := by
  unfold eqGuard
  cases op <;> simp only [Bool.not_true, Bool.not_false, if_true, if_false, Bool.false_eq_true] <;> first
    | rfl
    | (cases a <;> cases b <;> first | rfl | (exact absurd ⟨rfl, rfl⟩ h') | (exact absurd ⟨rfl, rfl⟩ (h _ _)))
theorem run_bin {op : BinOp} {t : TypeId} {x y v : Value} (hs : sameKind x y = true) (h : bin op x y = some v) (w : World) : (binOp op t x y).run P w = .ok v w := by
  cases x <;> cases y <;> simp only [sameKind, Bool.false_eq_true] at hs
  case int.int k a k' b =>
    have hk : k = k' := by
      split at hs
      · assumption
      · cases hs
    subst hk
    cases op <;> simp only [bin, Option.some.injEq, reduceCtorEq] at h <;> subst h <;> simp only [binOp, ne_eq, not_true_eq_false, if_false, Op.intArith, Op.intCmp] <;> first
      | rfl
      | (rw [run_pure]; congr 2)
  case string.string a b =>
    cases op <;> simp only [bin, Option.some.injEq, reduceCtorEq] at h <;> subst h <;> simp only [binOp, Op.stringOp] <;> rfl
theorem run_equal {t : Nat} {i : TInfo} (ok : TyOk P t i) {x y : Value} {r : Bool} (h : eqv i.kind x y = some r) (w : World) : (Op.equal t x y).run P w = .ok r w := by
  have hu := ok.und
  unfold Op.equal Op.maxDepth
  rw [show (10000 : Nat) = 9999 + 1 from rfl]
  unfold Op.equalIn
  cases hk : i.kind <;> simp only [hk, undOk] at hu <;> rw [hk] at h <;> (try (simp only [eqv, reduceCtorEq] at h; done))
  case bool =>
    cases x <;> cases y <;> simp only [eqv, Option.some.injEq, reduceCtorEq] at h
    subst h
    rw [bind_ok (run_underlying hu w)]; rfl
  case ptr =>
    obtain ⟨e, hu⟩ := hu
    rw [bind_ok (run_underlying hu w)]
    cases x <;> cases y <;> try (simp only [eqv, reduceCtorEq] at h; done)
    rename_i p q
    cases p <;> cases q <;> simp only [eqv, Option.isNone, Option.some.injEq, reduceCtorEq] at h <;> subst h <;> rfl
  case slice e =>
    rw [bind_ok (run_underlying hu w)]
    cases x <;> cases y <;> try (simp only [eqv, reduceCtorEq] at h; done)
    rename_i p _ _ q _ _
    cases p <;> cases q <;> simp only [eqv, Option.isNone, Option.some.injEq, reduceCtorEq] at h <;> subst h <;> rfl
  case map k e =>
    rw [bind_ok (run_underlying hu w)]
    cases x <;> cases y <;> try (simp only [eqv, reduceCtorEq] at h; done)
    rename_i p q
    cases p <;> cases q <;> simp only [eqv, Option.isNone, Option.some.injEq, reduceCtorEq] at h <;> subst h <;> rfl
theorem eqv_shape {kd : Kind} {x y : Value} {r : Bool} (h : eqv kd x y = some r) : (∀ cs ds, ¬ (x = .agg cs ∧ y = .agg ds)) ∧ ¬ (x = .nilIface ∧ y = .nilIface) := by
  constructor
  · rintro cs ds ⟨rfl, rfl⟩; cases kd <;> simp [eqv] at h
  · rintro ⟨rfl, rfl⟩; cases kd <;> simp [eqv] at h
theorem binOp_eql {t : Nat} {i : TInfo} (ok : TyOk P t i) {x y : Value} {r : Bool} (h : eqv i.kind x y = some r) (w : World) : (binOp .eql t x y).run P w = .ok (.bool r) w := by
  have he := run_equal ok h w
  have : binOp .eql t x y = (do pure (.bool (← Op.equal t x y))) := by
    cases hk : i.kind <;> rw [hk] at h <;> cases x <;> cases y <;> simp only [eqv, reduceCtorEq] at h <;> rfl
  rw [this, bind_ok he]; rfl
theorem binOp_neq {t : Nat} {i : TInfo} (ok : TyOk P t i) {x y : Value} {r : Bool} (h : eqv i.kind x y = some r) (w : World) : (binOp .neq t x y).run P w = .ok (.bool (!r)) w := by
  have he := run_equal ok h w
  have : binOp .neq t x y = (do pure (.bool (!(← Op.equal t x y)))) := by
    cases hk : i.kind <;> rw [hk] at h <;> cases x <;> cases y <;> simp only [eqv, reduceCtorEq] at h <;> rfl
  rw [this, bind_ok he]; rfl
theorem run_fieldAt {s : Nat} {fs : List (Nat × Nat)} {sh : List Sh} {by_ : Nat} (ok : TyOk P s ⟨.struct fs, sh, by_⟩) {f off sz : Nat} (hf : fs[f]? = some (off, sz + 1)) (ad : Addr) (w : World) :
    (Instr.fieldAt s (.pointer (some ad)) f).run P w = .ok (.pointer (some (ad.add off))) w := by
  obtain ⟨fl, hu, hm, hin⟩ := ok.und
  unfold Instr.fieldAt
  rw [bind_ok (run_underlying hu w)]
  rw [← hm, List.getElem?_map] at hf
  cases hq : fl.toList[f]? with
  | none => simp [hq] at hf
  | some fd =>
    simp only [hq, Option.map_some, Option.some.injEq, Prod.mk.injEq] at hf
    have hq' : fl[f]? = some fd := by simpa using hq
    simp only [hq']
    rw [bind_ok (show (Instr.sureAddr (.pointer (some ad))).run P w = .ok ad w from rfl)]
    have hfs : (sizeOf fd.type).run P w = .ok (P.cellsOf fd.type) w := by
      have hs := hin fd (List.mem_of_getElem? hq)
      obtain ⟨ti, hti⟩ := Option.isSome_iff_exists.1 hs
      unfold sizeOf Program.cellsOf
      rw [bind_ok (run_typeInfo hti w), hti]; rfl
    have : (fieldPlace ad fd).run P w = .ok (ad.add off) w := by
      unfold fieldPlace
      rw [bind_ok hfs, hf.2, ← hf.1]; rfl
    rw [bind_ok this]; rfl
theorem run_indexAt {t e : Nat} {sh : List Sh} {by_ : Nat} {ie : TInfo} (ok : TyOk P t ⟨.slice e, sh, by_⟩) (oke : TyOk P e ie) {ad : Addr} {n c : Nat} {k : IntKind} {i : Int} (h0 : 0 ≤ i) (h1 : i < n) (w : World) :
    (Instr.indexAt t (.slice (some ad) n c) (.int k i)).run P w = .ok (.pointer (some (ad.add (i.toNat * ie.sh.length)))) w := by
  have hu : P.underlying t = some (.slice e) := ok.und
  unfold Instr.indexAt
  rw [bind_ok (show (asIntOf (.int k i)).run P w = .ok (k, i) w from rfl)]
  simp only []
  rw [bind_ok (run_underlying hu w)]
  simp only []
  rw [bind_ok (run_pure P (some ad, n, e) w), bind_ok (run_underlying hu w)]
  simp only [h0, h1, and_self, if_true]
  rw [bind_ok (run_sizeOf oke w)]; rfl
/-! maps -/
theorem run_getObj {w : World} {r : Nat} {o : Obj} (h : w.heap[r]? = some o) (hc : ∀ c e f, o ≠ .cells c e f) : (getObj r).run P w = .ok o w := by
  unfold getObj
  cases o <;> first
    | (exact absurd rfl (hc _ _ _))
    | simp only [Sem.run, h]
theorem run_getMap {w : World} {r : Nat} {es : Array MapEntry} {clock : Nat} (h : w.heap[r]? = some (.map es clock)) : (getObj r).run P w = .ok (.map es clock) w :=
  run_getObj h (by simp)
def findI : List En → Int → Nat → Option (Nat × Value)
  | [], _, _ => none
  | e :: r, k, i => if k = e.k then some (i, e.v) else findI r k (i + 1)
theorem findI_val : ∀ (es : List En) (k : Int) (i : Nat), (findI es k i).map (·.2) = findE es k
  | [], _, _ => rfl
  | e :: r, k, i => by
    unfold findI findE
    split
    · rfl
    · exact findI_val r k (i + 1)
theorem findNow_eq (q kd : IntKind) (k : Int) : ∀ (es : List En) (i : Nat), Instr.findNow (.int q) (.int kd k) (es.map (En.e kd)) i = some (findI es k i)
  | [], _ => rfl
  | e :: r, i => by
    simp only [List.map_cons, Instr.findNow, findI, En.e, Instr.sameNow, if_true]
    by_cases h : k = e.k
    · simp [h]
    · have : (k == e.k) = false := by simpa using h
      simp only [this, h, if_false]
      exact findNow_eq q kd k r (i + 1)
theorem run_findKey {kt : Nat} {q kd : IntKind} (hu : P.underlying kt = some (.int q)) (k : Int) (es : List En) (w : World) :
    (Instr.findKey kt (.int kd k) (es.map (En.e kd))).run P w = .ok (findI es k 0) w := by
  unfold Instr.findKey
  rw [bind_ok (run_underlying hu w), findNow_eq]; rfl
theorem run_checkKey {kt : Nat} {q kd : IntKind} (hu : P.underlying kt = some (.int q)) (b : Bool) (k : Int) (w : World) :
    (Instr.checkKey b 10000 kt (.int kd k)).run P w = .ok () w := by
  rw [show (10000 : Nat) = 9999 + 1 from rfl]
  unfold Instr.checkKey
  rw [bind_ok (run_underlying hu w)]; rfl
theorem run_lookup_none {t kt e : Nat} {sh shk : List Sh} {b bk : Nat} {q kd : IntKind} {ie : TInfo} (ok : TyOk P t ⟨.map kt e, sh, b⟩) (okk : TyOk P kt ⟨.int q, shk, bk⟩) (oke : TyOk P e ie) (k : Int) (c : Bool) (w : World) :
    (Instr.lookup t (.map none) (.int kd k) c).run P w = .ok (match c with | true => .tuple #[ie.zero, .bool false] | false => ie.zero) w := by
  have hu : P.underlying t = some (.map kt e) := ok.und
  have huk : P.underlying kt = some (.int q) := okk.und
  unfold Instr.lookup
  rw [bind_ok (run_underlying hu w)]
  simp only []
  rw [bind_ok (run_pure P (#[] : Array MapEntry) w), bind_ok (run_checkKey huk _ k w)]
  have hf := run_findKey (kd := kd) huk k [] w
  simp only [List.map_nil] at hf
  rw [show (#[] : Array MapEntry).toList = [] from rfl, bind_ok hf]
  simp only [findI]
  rw [bind_ok (run_zeroValue oke w)]
  cases c <;> rfl
theorem run_lookup {t kt e : Nat} {sh shk : List Sh} {b bk : Nat} {q kd : IntKind} {ie : TInfo} (ok : TyOk P t ⟨.map kt e, sh, b⟩) (okk : TyOk P kt ⟨.int q, shk, bk⟩) (oke : TyOk P e ie) {r : Nat} {es : List En} {clock : Nat} {w : World} (hm : mapAt w r kd es clock) (k : Int) (c : Bool) :
    (Instr.lookup t (.map (some r)) (.int kd k) c).run P w = .ok (match findE es k with
      | some v => (match c with | true => .tuple #[v, .bool true] | false => v)
      | none => (match c with | true => .tuple #[ie.zero, .bool false] | false => ie.zero)) w := by
  have hu : P.underlying t = some (.map kt e) := ok.und
  have huk : P.underlying kt = some (.int q) := okk.und
  unfold Instr.lookup
  rw [bind_ok (run_underlying hu w)]
  simp only []
  rw [bind_ok (run_getMap hm)]
  simp only []
  rw [bind_ok (run_pure P (entries kd es) w), bind_ok (run_checkKey huk _ k w)]
  have hf := run_findKey (kd := kd) huk k es w
  rw [show (entries kd es).toList = es.map (En.e kd) by simp [entries], bind_ok hf]
  have hv := findI_val es k 0
  cases hi : findI es k 0 with
  | none =>
    rw [hi] at hv
    simp only [Option.map_none] at hv
    rw [← hv]
    simp only []
    rw [bind_ok (run_zeroValue oke w)]
    cases c <;> rfl
  | some p =>
    rw [hi] at hv
    simp only [Option.map_some] at hv
    rw [← hv]
    cases c <;> rfl
/-! slices -/
theorem run_sliceBound {k : IntKind} {i : Int} {y : Nat} (c : BoundsCode) (h0 : 0 ≤ i) (h1 : i ≤ y) (w : World) : (Instr.sliceBound (.int k i) y c).run P w = .ok i.toNat w := by
  unfold Instr.sliceBound
  rw [bind_ok (show (asIntOf (.int k i)).run P w = .ok (k, i) w from rfl)]
  simp only [h0, h1, and_self, if_true]; rfl
theorem run_slice {t e : Nat} {sh : List Sh} {by_ : Nat} {ie : TInfo} (ok : TyOk P t ⟨.slice e, sh, by_⟩) (oke : TyOk P e ie) {a : Option Addr} {n c : Nat} {lo hi : Option Value} {l h : Int} (hl : bound 0 lo = some l) (hh : bound n hi = some h)
    (h0 : 0 ≤ l) (h1 : l ≤ h) (h2 : h ≤ c) (w : World) :
    (Instr.sliceAt t (.slice a n c) lo hi none).run P w = .ok (.slice (sub? a l.toNat c ie.sh.length) (h.toNat - l.toNat) (c - l.toNat)) w := by
  have hu : P.underlying t = some (.slice e) := ok.und
  unfold Instr.sliceAt
  rw [bind_ok (run_underlying hu w)]
  simp only []
  unfold Instr.slice
  rw [bind_ok (run_underlying hu w)]
  simp only []
  have hhn : ((h.toNat : Nat) : Int) = h := by omega
  have hb : (Instr.sliceBounds true n c lo hi none).run P w = .ok (l.toNat, h.toNat, c) w := by
    unfold Instr.sliceBounds
    simp only []
    rw [bind_ok (run_pure P c w)]
    have s2 : ∀ (hv : Option Value), bound n hv = some h → (match hv, (none : Option Value) with
        | some v, some _ => Instr.sliceBound v c .slice3B
        | some v, none => Instr.sliceBound v c (if true then .sliceAcap else .sliceAlen)
        | none, none => pure n
        | none, some _ => stuck "Slice: max without high" : Sem Nat).run P w = .ok h.toNat w := by
      intro hv hhv
      cases hv with
      | none => simp only [bound, Option.some.injEq] at hhv; subst hhv; rfl
      | some v =>
        cases v <;> simp only [bound, Option.some.injEq, reduceCtorEq] at hhv
        subst hhv
        exact run_sliceBound _ (by omega) h2 w
    have s3 : ∀ (lv : Option Value), bound 0 lv = some l → (match lv with
        | some v => Instr.sliceBound v h.toNat (if (none : Option Value).isSome then .slice3C else .sliceB)
        | none => pure 0 : Sem Nat).run P w = .ok l.toNat w := by
      intro lv hlv
      cases lv with
      | none => simp only [bound, Option.some.injEq] at hlv; subst hlv; rfl
      | some v =>
        cases v <;> simp only [bound, Option.some.injEq, reduceCtorEq] at hlv
        subst hlv
        exact run_sliceBound _ h0 (by omega) w
    cases hi with
    | none =>
      have := s2 none hh
      simp only [] at this ⊢
      rw [bind_ok this]
      cases lo with
      | none => have := s3 none hl; simp only [] at this ⊢; rw [bind_ok this]; rfl
      | some v => have := s3 (some v) hl; simp only [] at this ⊢; rw [bind_ok this]; rfl
    | some u =>
      have := s2 (some u) hh
      simp only [] at this ⊢
      rw [bind_ok this]
      cases lo with
      | none => have := s3 none hl; simp only [] at this ⊢; rw [bind_ok this]; rfl
      | some v => have := s3 (some v) hl; simp only [] at this ⊢; rw [bind_ok this]; rfl
  rw [bind_ok hb]
  simp only []
  rw [bind_ok (run_sizeOf oke w)]
  rfl
theorem run_index {t e n : Nat} {sh : List Sh} {by_ : Nat} {ie : TInfo} {s : Sh} (ok : TyOk P t ⟨.arr n e, sh, by_⟩) (oke : TyOk P e ie) (hs : ie.ty = .cell s) {cs : Array Value} {k : IntKind} {i : Int} (h0 : 0 ≤ i) (h1 : i < n) (x : s.T)
    (hx : cs[i.toNat * ie.sh.length]? = some (s.v x)) (w : World) : (Instr.index t (.agg cs) (.int k i)).run P w = .ok (s.v x) w := by
  have hu : P.underlying t = some (.array n e) := ok.und
  unfold Instr.index
  rw [bind_ok (show (asIntOf (.int k i)).run P w = .ok (k, i) w from rfl)]
  simp only []
  rw [bind_ok (run_underlying hu w)]
  simp only [h0, h1, and_self, if_true]
  rw [bind_ok (run_sizeOf oke w)]
  have ha : ie.isAgg = false := by
    cases hq : ie.isAgg
    · rfl
    · rw [ty_agg hq] at hs; cases hs
  unfold part
  rw [bind_ok (run_isAgg oke w), ha]
  simp only [Bool.false_eq_true, if_false, hx]; rfl
/-! literals -/
theorem run_build_struct {t : Nat} {fs : List (Nat × Nat)} {sh : List Sh} {by_ : Nat} (ok : TyOk P t ⟨.struct fs, sh, by_⟩) {l : List (Nat × Value)} {cs : Array Value} (h : fillL (fun i => fs[i]?) (sh.map Sh.zero).toArray l = some cs) (w : World) :
    (Instr.build t l.toArray).run P w = .ok (.agg cs) w := by
  obtain ⟨fl, hu, hm, hin⟩ := ok.und
  unfold Instr.build
  rw [bind_ok (run_zeroValue ok w), bind_ok (run_underlying hu w)]
  simp only []
  have hmap : (fl.mapM fun f => do pure (f.offset, ← sizeOf f.type) : Sem (Array (Nat × Nat))).run P w = .ok fs.toArray w := by
    rw [Array.mapM_eq_mapM_toList]
    have : ∀ (l : List Field), (∀ f ∈ l, (P.info? f.type).isSome = true) → (l.mapM (fun f => do pure (f.offset, ← sizeOf f.type) : Field → Sem (Nat × Nat))).run P w = .ok (l.map fun f => (f.offset, P.cellsOf f.type)) w := by
      intro l hl
      induction l with
      | nil => rfl
      | cons f r ih =>
        rw [List.mapM_cons]
        have hfs : (sizeOf f.type).run P w = .ok (P.cellsOf f.type) w := by
          have hs := hl f (by simp)
          obtain ⟨ti, hti⟩ := Option.isSome_iff_exists.1 hs
          unfold sizeOf Program.cellsOf
          rw [bind_ok (run_typeInfo hti w), hti]; rfl
        have h1 : (do pure (f.offset, ← sizeOf f.type) : Sem (Nat × Nat)).run P w = .ok (f.offset, P.cellsOf f.type) w := by
          rw [bind_ok hfs]; rfl
        rw [bind_ok h1, bind_ok (ih fun g hg => hl g (by simp [hg]))]; rfl
    show (List.toArray <$> _ : Sem _).run P w = _
    rw [map_eq_pure_bind, bind_ok (this fl.toList hin), hm]; rfl
  rw [bind_ok hmap]
  have hz : (TInfo.zero ⟨.struct fs, sh, by_⟩).cells = (sh.map Sh.zero).toArray := rfl
  simp only [hz, List.getElem?_toArray]
  unfold fillL at h
  rw [h]; rfl
theorem run_build_arr {t n e : Nat} {sh : List Sh} {by_ : Nat} {ie : TInfo} (ok : TyOk P t ⟨.arr n e, sh, by_⟩) (oke : TyOk P e ie) {l : List (Nat × Value)} {cs : Array Value}
    (h : fillL (fun i => some (i * ie.sh.length, ie.sh.length)) (sh.map Sh.zero).toArray l = some cs) (w : World) : (Instr.build t l.toArray).run P w = .ok (.agg cs) w := by
  have hu : P.underlying t = some (.array n e) := ok.und
  unfold Instr.build
  rw [bind_ok (run_zeroValue ok w), bind_ok (run_underlying hu w)]
  simp only []
  rw [bind_ok (run_sizeOf oke w)]
  have hz : (TInfo.zero ⟨.arr n e, sh, by_⟩).cells = (sh.map Sh.zero).toArray := rfl
  simp only [hz]
  unfold fillL at h
  rw [h]; rfl
end
end Go.Vc
