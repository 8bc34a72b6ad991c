/- The verification condition is sound, operation by operation. -/
import Derived.Test.YtbolgpjcmchfoaaGreatVc
namespace Go.Vc
open Go

/-! ### Tables -/
def undOk (P : Program) (t : Nat) : Kind → Prop
  | .int k => P.underlying t = some (.int k)
  | .bool => P.underlying t = some .bool
  | .str => P.underlying t = some .string
  | .ptr => ∃ e, P.underlying t = some (.pointer e)
  | .slice e => P.underlying t = some (.slice e)
  | .map k e => P.underlying t = some (.map k e)
  | .struct fs => ∃ fields : Array Field, P.underlying t = some (.struct fields) ∧ fields.toList.map (fun f => (f.offset, P.cellsOf f.type)) = fs ∧ ∀ f ∈ fields.toList, (P.info? f.type).isSome = true
  | .arr n e => P.underlying t = some (.array n e)
  | .func => ∃ a b c, P.underlying t = some (.func a b c)
  | .iface => ∃ m, P.underlying t = some (.interface m)
structure TyOk (P : Program) (t : Nat) (i : TInfo) : Prop where
  und : undOk P t i.kind
  info : ∃ ti, P.info? t = some ti ∧ ti.size = i.sh.length ∧ ti.bytes = i.bytes ∧ ti.zero = some i.zero
  one : match i.kind with | .struct _ => True | .arr _ _ => True | _ => ∃ s, i.sh = [s]
structure TabOk (P : Program) (T : Tab) : Prop where
  ty : ∀ t i, T.ty t = some i → TyOk P t i
  fn : ∀ f r, T.fn f = some r → ∀ args w, (callFunc f args).run P w = .ok (.enter f args) w
  mixed : P.follows .mixedOrders = true

/-! ### Small facts -/
theorem bind_run {α β : Type} (P : Program) (m : Sem α) (f : α → Sem β) (w : World) :
    (m >>= f).run P w = match m.run P w with | .ok a w' => (f a).run P w' | .halt h w' => .halt h w' := by
  show (m.bind f).run P w = _
  induction m generalizing w with
  | pure a => rfl
  | load md a k ih =>
    simp only [Sem.bind, Sem.run]
    split
    · exact ih _ _
    · split
      · exact ih _ _
      · rfl
  | store md a v k ih =>
    cases v <;> simp only [Sem.bind, Sem.run] <;> (try rfl) <;>
    · split
      · split
        · rfl
        · exact ih _
      · split
        · exact ih _
        · rfl
  | new o k ih => simp only [Sem.bind, Sem.run]; exact ih _ _
  | shape r k ih => simp only [Sem.bind, Sem.run]; exact ih _ _
  | freeze a n k ih => simp only [Sem.bind, Sem.run]; exact ih _
  | frozen a k ih => simp only [Sem.bind, Sem.run]; exact ih _ _
  | getObj r k ih =>
    simp only [Sem.bind, Sem.run]
    split
    · rfl
    · exact ih _ _
    · rfl
  | setObj r o k ih =>
    simp only [Sem.bind, Sem.run]
    split
    · rfl
    · exact ih _
    · rfl
  | choose q k ih =>
    simp only [Sem.bind, Sem.run]
    split
    · exact ih _ _
    · exact ih _ _
  | sys c k ih => simp only [Sem.bind, Sem.run]; exact ih _ _
  | program k ih => simp only [Sem.bind, Sem.run]; exact ih _ _
  | mark m k ih => simp only [Sem.bind, Sem.run]; exact ih _
  | halt h => rfl
theorem bind_ok {α β : Type} {P : Program} {m : Sem α} {f : α → Sem β} {w w' : World} {a : α} (h : m.run P w = .ok a w') :
    (m >>= f).run P w = (f a).run P w' := by rw [bind_run, h]
theorem run_pure {α : Type} (P : Program) (a : α) (w : World) : (pure a : Sem α).run P w = .ok a w := rfl

section
variable {P : Program} {T : Tab}
theorem run_underlying {t : Nat} {d : TypeDesc} (h : P.underlying t = some d) (w : World) : (underlying t).run P w = .ok d w := by
  show (match P.underlying t with | some d => (pure d : Sem TypeDesc) | none => _).run P w = _
  rw [h]; rfl
theorem run_typeInfo {t : Nat} {d : TypeInfo} (h : P.info? t = some d) (w : World) : (typeInfo t).run P w = .ok d w := by
  show (match P.info? t with | some d => (pure d : Sem TypeInfo) | none => _).run P w = _
  rw [h]; rfl
theorem run_sizeOf {t : Nat} {i : TInfo} (h : TyOk P t i) (w : World) : (sizeOf t).run P w = .ok i.sh.length w := by
  obtain ⟨ti, h1, h2, _⟩ := h.info
  unfold sizeOf
  rw [bind_ok (run_typeInfo h1 w), h2]; rfl
theorem run_zeroValue {t : Nat} {i : TInfo} (h : TyOk P t i) (w : World) : (zeroValue t).run P w = .ok i.zero w := by
  obtain ⟨ti, h1, _, _, h4⟩ := h.info
  unfold zeroValue
  rw [bind_ok (run_typeInfo h1 w), h4]; rfl
theorem cellsOf_eq {t : Nat} {i : TInfo} (h : TyOk P t i) : P.cellsOf t = i.sh.length := by
  obtain ⟨ti, h1, h2, _⟩ := h.info
  simp [Program.cellsOf, h1, h2]
def TInfo.isAgg (i : TInfo) : Bool :=
  match i.kind with
  | .struct _ => true
  | .arr _ _ => true
  | _ => false
theorem run_isAgg {t : Nat} {i : TInfo} (h : TyOk P t i) (w : World) : (isAgg t).run P w = .ok i.isAgg w := by
  unfold isAgg TInfo.isAgg
  have hu := h.und
  cases hk : i.kind <;> simp only [hk, undOk] at hu
  case struct fs => obtain ⟨fl, hu, _⟩ := hu; rw [bind_ok (run_underlying hu w)]; rfl
  case ptr => obtain ⟨e, hu⟩ := hu; rw [bind_ok (run_underlying hu w)]; rfl
  case func => obtain ⟨a, b, c, hu⟩ := hu; rw [bind_ok (run_underlying hu w)]; rfl
  case iface => obtain ⟨m, hu⟩ := hu; rw [bind_ok (run_underlying hu w)]; rfl
  all_goals (rw [bind_ok (run_underlying hu w)]; rfl)
theorem ty_agg {i : TInfo} (h : i.isAgg = true) : i.ty = .agg i.sh := by
  unfold TInfo.isAgg at h; unfold TInfo.ty
  split at h <;> simp_all
theorem ty_cell {t : Nat} {i : TInfo} (ok : TyOk P t i) (h : i.isAgg = false) : ∃ s, i.sh = [s] ∧ i.ty = .cell s ∧ i.zero = s.zero := by
  have := ok.one
  unfold TInfo.isAgg at h; unfold TInfo.ty TInfo.zero
  cases hk : i.kind <;> simp only [hk] at this h ⊢ <;> first
    | (obtain ⟨s, hs⟩ := this; exact ⟨s, hs, by simp [hs], by simp [hs]⟩)
    | simp at h
theorem HT.vals_length : ∀ (l : List Sh) (x : HT l), (HT.vals l x).length = l.length
  | [], _ => rfl
  | [_], _ => rfl
  | _ :: b :: r, x => by simp [HT.vals, HT.vals_length (b :: r) x.2]
theorem Sh.one_v : ∀ (s : Sh) (x : s.T) (v : Value), s.v x = v → (∀ cs, v ≠ .agg cs) → True := fun _ _ _ _ _ => trivial
/-! loads -/
theorem run_load {w : World} {a : Addr} {v : Value} (h : w.cell? a = some v) : (load a).run P w = .ok v w := by
  unfold load; simp only [Sem.run, h]
theorem Addr.add_add (a : Addr) (i j : Nat) : (a.add i).add j = a.add (i + j) := by
  unfold Addr.add
  by_cases hi : i = 0
  · subst hi; simp
  · by_cases hj : j = 0
    · subst hj; simp [hi]
    · simp [hi, hj, Nat.add_assoc]
theorem run_loadCellsFrom {w : World} {a : Addr} : ∀ (vs : List Value) (i : Nat) (acc : Array Value), cellsAt w a i vs →
    (loadCellsFrom a i vs.length acc).run P w = .ok (acc ++ vs.toArray) w
  | [], _, acc, _ => by simp [loadCellsFrom]
  | [v], i, acc, h => by
    show (loadCellsFrom a i (0 + 1) acc).run P w = _
    unfold loadCellsFrom
    rw [bind_ok (run_load h)]
    simp [loadCellsFrom]
  | v :: u :: r, i, acc, h => by
    show (loadCellsFrom a i ((u :: r).length + 1) acc).run P w = _
    unfold loadCellsFrom
    rw [bind_ok (run_load h.1), run_loadCellsFrom (u :: r) (i + 1) (acc.push v) h.2]
    congr 1
    apply Array.ext'
    simp
theorem run_loadCells {w : World} {a : Addr} {vs : List Value} {n : Nat} (hn : vs.length = n) (h : cellsAt w a 0 vs) : (loadCells a n).run P w = .ok vs.toArray w := by
  unfold loadCells
  rw [← hn, run_loadCellsFrom vs 0 #[] h]; simp
theorem run_loadVar {w : World} {t : Nat} {a : Addr} {i : TInfo} (ok : TyOk P t i) (x : i.ty.T) (h : cellsAt w a 0 (i.ty.vals x)) : (loadVar t a).run P w = .ok (i.ty.v x) w := by
  unfold loadVar
  rw [bind_ok (run_isAgg ok w)]
  cases ha : i.isAgg
  · obtain ⟨s, hs, ht, _⟩ := ty_cell ok ha
    simp only [Bool.false_eq_true, if_false]
    generalize hty : i.ty = ty at x h
    rw [ht] at hty; subst hty
    exact run_load (by simpa [Ty.vals, Ty.v, cellsAt, Addr.add] using h)
  · have ht := ty_agg ha
    simp only [if_true]
    rw [bind_ok (run_sizeOf ok w)]
    generalize hty : i.ty = ty at x h
    rw [ht] at hty; subst hty
    rw [bind_ok (run_loadCells (HT.vals_length _ _) h)]; rfl

/-! stores -/
theorem run_store {w : World} {a : Addr} {u v : Value} (h : w.cell? a = some u) (hf : w.frozen? a = false) (h1 : one v = true) : (store a v).run P w = .ok () (w.setCell a v) := by
  unfold store
  cases v <;> simp only [Sem.run, h, hf, one] at * <;> first | rfl | (cases h1; done)
theorem Addr.add_inj {a : Addr} {i j : Nat} (h : a.add i = a.add j) : i = j := by
  unfold Addr.add at h
  by_cases hi : i = 0
  · by_cases hj : j = 0
    · omega
    · simp [hi, hj] at h
      have := congrArg Addr.off h
      simp at this; omega
  · by_cases hj : j = 0
    · simp [hi, hj] at h
      have := congrArg Addr.off h
      simp at this; omega
    · simp [hi, hj] at h; omega
theorem storable_keep {w : World} {a : Addr} (u : Value) (j : Nat) : ∀ (vs : List Value) (i : Nat), j < i → storable w a i vs → storable (w.setCell (a.add j) u) a i vs
  | [], _, _, _ => trivial
  | [_], i, hj, h => by
    have hne : a.add j ≠ a.add i := fun e => by have := Addr.add_inj e; omega
    simp only [storable] at *
    rw [World.cell?_setCell_other _ _ _ _ hne, World.frozen?_setCell]; exact h
  | _ :: u' :: r, i, hj, h => by
    have hne : a.add j ≠ a.add i := fun e => by have := Addr.add_inj e; omega
    simp only [storable] at *
    rw [World.cell?_setCell_other _ _ _ _ hne, World.frozen?_setCell]
    exact ⟨h.1, storable_keep u j (u' :: r) (i + 1) (by omega) h.2⟩
theorem run_storeCells {a : Addr} : ∀ (vs : List Value) (w : World) (i : Nat), storable w a i vs → vs.all one = true → (storeCells a vs i).run P w = .ok () (storeAll w a i vs)
  | [], _, _, _, _ => rfl
  | [v], w, i, h, h1 => by
    unfold storeCells
    simp only [storable] at h
    obtain ⟨⟨u, hu⟩, hf⟩ := h
    rw [bind_ok (run_store hu hf (by simpa using h1))]
    rfl
  | v :: u' :: r, w, i, h, h1 => by
    unfold storeCells
    simp only [storable] at h
    obtain ⟨⟨⟨u, hu⟩, hf⟩, h⟩ := h
    simp only [List.all_cons, Bool.and_eq_true] at h1
    rw [bind_ok (run_store hu hf h1.1)]
    exact run_storeCells (u' :: r) _ (i + 1) (storable_keep v i _ _ (by omega) h) (by simp [h1.2])
theorem run_storeVar {w : World} {t : Nat} {a : Addr} {i : TInfo} {v : Value} (ok : TyOk P t i) (hn : v.cells.size = i.sh.length) (h : storable w a 0 v.cells.toList) (h1 : v.cells.toList.all one = true) :
    (storeVar t a v).run P w = .ok () (storeAll w a 0 v.cells.toList) := by
  unfold storeVar
  rw [bind_ok (run_sizeOf ok w)]
  simp only [hn, ne_eq, not_true_eq_false, if_false]
  exact run_storeCells _ _ _ h h1

/-! frames -/
structure Rep (N : Nat) (pend : Nat → Prop) (E : Env) (a : Act) : Prop where
  defers : a.defers = []
  size : a.tmps.size = N
  at_ : ∀ s v, get E s = some v → s < 1000000 → ¬ pend s → a.tmps[s]? = some v
theorem get_cons_eq (s : Nat) (v : Value) (E : Env) : get ((s, v) :: E) s = some v := by simp [get, Nat.beq_refl]
theorem get_cons_ne {s t : Nat} (v : Value) (E : Env) (h : s ≠ t) : get ((s, v) :: E) t = get E t := by
  have : Nat.beq s t = false := by
    cases hb : Nat.beq s t
    · rfl
    · exact absurd (Nat.eq_of_beq_eq_true hb) h
  simp [get, this]
theorem Rep.put {N : Nat} {pend : Nat → Prop} {E : Env} {a : Act} (h : Rep N pend E a) {d : Option Tmp} (hd : ∀ s, d = some s → s < N) (v : Value) : Rep N pend (putE d v E) (a.put d v) := by
  cases d with
  | none => exact h
  | some d =>
    have hlt := hd d rfl
    refine ⟨h.defers, by simp [Act.put, h.size], fun s u hs hl hp => ?_⟩
    simp only [putE] at hs
    simp only [Act.put]
    by_cases e : d = s
    · subst e
      rw [get_cons_eq] at hs
      injection hs with hs
      subst hs
      simp [h.size, hlt]
    · rw [get_cons_ne _ _ e] at hs
      rw [Array.getElem?_setIfInBounds_ne e]
      exact h.at_ s u hs hl hp
/-- a slot's value, written otherwise. -/
theorem Rep.same {N : Nat} {pend : Nat → Prop} {E : Env} {a : Act} (h : Rep N pend E a) {s : Nat} {v u : Value} (hs : get E s = some v) (e : v = u) : Rep N pend ((s, u) :: E) a := by
  subst e
  refine ⟨h.defers, h.size, fun t x ht hl hp => ?_⟩
  by_cases e : s = t
  · subst e; rw [get_cons_eq] at ht; exact h.at_ _ _ (by rw [hs]; exact ht) hl hp
  · rw [get_cons_ne _ _ e] at ht; exact h.at_ _ _ ht hl hp
theorem Rep.hint {N : Nat} {pend : Nat → Prop} {E : Env} {a : Act} (h : Rep N pend E a) (s : Nat) (v : Value) : Rep N pend ((Vc.hint s, v) :: E) a := by
  refine ⟨h.defers, h.size, fun t x ht hl hp => ?_⟩
  have : Vc.hint s ≠ t := by unfold Vc.hint; omega
  rw [get_cons_ne _ _ this] at ht
  exact h.at_ _ _ ht hl hp
theorem getD_of {a : Array Value} {s : Nat} {v : Value} (h : a[s]? = some v) : a.getD s undef = v := by
  simp [Array.getD_eq_getD_getElem?, h]
theorem Rep.opd {N : Nat} {pend : Nat → Prop} {E : Env} {a : Act} (h : Rep N pend E a) {x : Operand} {v : Value} (hx : opd E x = some v) (hp : ∀ s, x = .tmp s → ¬ pend s) : a.eval x = v := by
  cases x with
  | tmp s =>
    simp only [Vc.opd] at hx
    split at hx
    · rename_i hb
      exact getD_of (h.at_ s v hx (by rw [Nat.blt_eq] at hb; exact hb) (hp s rfl))
    · cases hx
  | const u => simpa [Vc.opd, Act.eval] using hx
  | global g => simpa [Vc.opd, Act.eval] using hx
  | func f => simpa [Vc.opd, Act.eval] using hx
theorem Rep.opds {N : Nat} {pend : Nat → Prop} {E : Env} {a : Act} (h : Rep N pend E a) : ∀ (l : List Operand) (vs : List Value), Vc.opds E l = some vs → (∀ s, Operand.tmp s ∈ l → ¬ pend s) → l.map a.eval = vs
  | [], vs, hx, _ => by simpa [Vc.opds] using hx
  | x :: r, vs, hx, hp => by
    simp only [Vc.opds] at hx
    cases h1 : Vc.opd E x with
    | none => simp [h1] at hx
    | some v =>
      cases h2 : Vc.opds E r with
      | none => simp [h1, h2] at hx
      | some l =>
        simp only [h1, h2, Option.some.injEq] at hx
        subst hx
        rw [List.map_cons, h.opd h1 (fun s e => hp s (by simp [e])), h.opds r l h2 (fun s e => hp s (by simp [e]))]
theorem Rep.parts {N : Nat} {pend : Nat → Prop} {E : Env} {a : Act} (h : Rep N pend E a) : ∀ (l : List (Nat × Operand)) (vs : List (Nat × Value)), Vc.parts E l = some vs → (∀ s, Operand.tmp s ∈ l.map (·.2) → ¬ pend s) → l.map (fun p => (p.1, a.eval p.2)) = vs
  | [], vs, hx, _ => by simpa [Vc.parts] using hx
  | (i, x) :: r, vs, hx, hp => by
    simp only [Vc.parts] at hx
    cases h1 : Vc.opd E x with
    | none => simp [h1] at hx
    | some v =>
      cases h2 : Vc.parts E r with
      | none => simp [h1, h2] at hx
      | some l =>
        simp only [h1, h2, Option.some.injEq] at hx
        subst hx
        rw [List.map_cons, h.opd h1 (fun s e => hp s (by simp [e])), h.parts r l h2 (fun s e => hp s (by simp at e ⊢; exact Or.inr e))]
end
end Go.Vc
