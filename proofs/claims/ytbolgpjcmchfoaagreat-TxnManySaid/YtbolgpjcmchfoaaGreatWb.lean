/- Slices that a function owns: rows of cells; what append and copy do to them. -/
import Derived.Test.YtbolgpjcmchfoaaGreatWa
namespace Go.Sl
open Go Go.Vc
/-! ### Runs of cells -/
theorem exists_get {l : List Value} {i : Nat} (h : i < l.length) : ∃ u, l.toArray[i]? = some u := ⟨l[i], by simp [h]⟩
theorem cellsAt_iff {w : World} {a : Addr} : ∀ (vs : List Value) (i : Nat), cellsAt w a i vs ↔ ∀ j (hj : j < vs.length), w.cell? (a.add (i + j)) = some vs[j]
  | [], i => by simp [cellsAt]
  | [v], i => by
    simp only [cellsAt, List.length_singleton]
    constructor
    · intro h j hj
      obtain rfl : j = 0 := by omega
      simpa using h
    · intro h; simpa using h 0 (by omega)
  | v :: u :: r, i => by
    simp only [cellsAt]
    rw [cellsAt_iff (u :: r) (i + 1)]
    constructor
    · rintro ⟨h0, h⟩ j hj
      cases j with
      | zero => simpa using h0
      | succ j =>
        have := h j (by simpa using hj)
        rw [show i + 1 + j = i + (j + 1) from by omega] at this
        simpa using this
    · intro h
      refine ⟨h 0 (by simp), fun j hj => ?_⟩
      have := h (j + 1) (by simpa using hj)
      rw [show i + 1 + j = i + (j + 1) from by omega]
      simpa using this
theorem storable_iff {w : World} {a : Addr} : ∀ (vs : List Value) (i : Nat), storable w a i vs ↔ ∀ j, j < vs.length → (∃ u, w.cell? (a.add (i + j)) = some u) ∧ w.frozen? (a.add (i + j)) = false
  | [], i => by simp [storable]
  | [v], i => by
    simp only [storable, List.length_singleton]
    constructor
    · intro h j hj
      obtain rfl : j = 0 := by omega
      simpa using h
    · intro h; simpa using h 0 (by omega)
  | v :: u :: r, i => by
    simp only [storable]
    rw [storable_iff (u :: r) (i + 1)]
    constructor
    · rintro ⟨h0, h⟩ j hj
      cases j with
      | zero => simpa using h0
      | succ j =>
        have := h j (by simpa using hj)
        rw [show i + 1 + j = i + (j + 1) from by omega] at this
        simpa using this
    · intro h
      refine ⟨by simpa using h 0 (by simp), fun j hj => ?_⟩
      have := h (j + 1) (by simpa using hj)
      rw [show i + 1 + j = i + (j + 1) from by omega]
      simpa using this
theorem Sat.storeAll {b : Nat} {t : TypeId} {R : HP} {o : Nat} {post : List Value} : ∀ (vs old pre : List Value) (i : Nat) {w : World}, Sat (pt b (.cells (pre ++ old ++ post).toArray t (0, 0)) * R) w → pre.length = o + i → old.length = vs.length →
    Sat (pt b (.cells (pre ++ vs ++ post).toArray t (0, 0)) * R) (Vc.storeAll w ⟨b, o, none⟩ i vs)
  | [], old, pre, i, w, h, _, hl => by
    obtain rfl : old = [] := List.length_eq_zero_iff.1 hl
    exact h
  | v :: r, old, pre, i, w, h, hp, hl => by
    cases old with
    | nil => simp at hl
    | cons x old =>
      have h1 := h.setCell (o + i) v
      have e : (pre ++ x :: old ++ post).toArray.setIfInBounds (o + i) v = ((pre ++ [v]) ++ old ++ post).toArray := by
        rw [← hp]; simp
      rw [e] at h1
      have h2 := Sat.storeAll (o := o) (post := post) r old (pre ++ [v]) (i + 1) h1 (by simp only [List.length_append, List.length_singleton]; omega) (by simpa using hl)
      simp only [Vc.storeAll, add_mk]
      simpa using h2

/-! ### The capacity of what grows -/
theorem growBy_le {N : Nat} : ∀ (r c : Nat), c ≤ 2 * N + 800 → Builtin.growBy N r c ≤ 2 * N + 800
  | 0, c, h => h
  | r + 1, c, h => by
    unfold Builtin.growBy
    split
    · exact h
    · exact growBy_le r _ (by omega)
theorem newCapOk_of {n m c bytes : Nat} (hc : c < n + m) (h : (n + m) * bytes ≤ 2 ^ 44) (hb : bytes ≤ 2 ^ 20) : newCapOk n m c bytes := by
  unfold newCapOk
  have h1 : Builtin.nextslicecap (n + m) c ≤ 2 * (n + m) + 800 := by
    unfold Builtin.nextslicecap
    split
    · omega
    · split
      · omega
      · exact growBy_le _ _ (by omega)
  calc _ ≤ (2 * (n + m) + 800) * bytes := Nat.mul_le_mul_right _ h1
    _ = 2 * ((n + m) * bytes) + 800 * bytes := by rw [Nat.add_mul, Nat.mul_assoc]
    _ ≤ 2 ^ 48 := by omega

/-! ### Rows of one's own -/
/-- A slice whose row of cells is one's own: 'vs' its cells, each element 'sz' of them. -/
def ownS (sz : Nat) (s : SV) (vs : List Value) : HP := fun h =>
  (s.c = 0 ∧ s.n = 0 ∧ vs = [] ∧ ∀ b, h b = none) ∨
  (vs.length = s.n * sz ∧ s.n ≤ s.c ∧ ∃ b sp t, s.a = some ⟨b, 0, none⟩ ∧ vs.length + sp.length = s.c * sz ∧ pt b (.cells (vs ++ sp).toArray t (0, 0)) h)
theorem ownS_cases {sz : Nat} {s : SV} {vs : List Value} {R : HP} {w : World} (h : Sat (ownS sz s vs * R) w) :
    (s.c = 0 ∧ s.n = 0 ∧ vs = [] ∧ Sat R w) ∨ (vs.length = s.n * sz ∧ s.n ≤ s.c ∧ ∃ b sp t, s.a = some ⟨b, 0, none⟩ ∧ vs.length + sp.length = s.c * sz ∧ Sat (pt b (.cells (vs ++ sp).toArray t (0, 0)) * R) w) := by
  obtain ⟨g, hg, h1, h2, hd, hu, ha, hr⟩ := h
  rcases ha with ⟨e1, e2, e3, h0⟩ | ⟨hl, hc, b, sp, t, hsa, hsl, hp⟩
  · exact .inl ⟨e1, e2, e3, Sat.right (A := 1) ⟨g, hg, h1, h2, hd, hu, h0, hr⟩⟩
  · exact .inr ⟨hl, hc, b, sp, t, hsa, hsl, g, hg, h1, h2, hd, hu, hp, hr⟩
theorem ownS_nil {sz : Nat} {s : SV} {R : HP} {w : World} (h : Sat R w) (hc : s.c = 0) (hn : s.n = 0) : Sat (ownS sz s [] * R) w := by
  refine Sat.imp_left (A := 1) (by simpa using h) fun g hg => .inl ⟨hc, hn, rfl, hg⟩
theorem ownS_mk {sz t b n c : Nat} {vs sp : List Value} {R : HP} {w : World} (h : Sat (pt b (.cells (vs ++ sp).toArray t (0, 0)) * R) w) (hn : vs.length = n * sz) (hc : n ≤ c) (hs : vs.length + sp.length = c * sz) :
    Sat (ownS sz ⟨some ⟨b, 0, none⟩, n, c⟩ vs * R) w :=
  Sat.imp_left h fun _ hg => .inr ⟨hn, hc, b, sp, t, rfl, hs, hg⟩
theorem ownS_length {sz : Nat} {s : SV} {vs : List Value} {R : HP} {w : World} (h : Sat (ownS sz s vs * R) w) : vs.length = s.n * sz := by
  rcases ownS_cases h with ⟨_, e, e', _⟩ | ⟨hl, _⟩
  · simp [e, e']
  · exact hl
theorem ownS_cell {sz : Nat} {s : SV} {vs : List Value} {R : HP} {w : World} (h : Sat (ownS sz s vs * R) w) {i : Nat} (hi : i < vs.length) : ∃ b, s.a = some ⟨b, 0, none⟩ ∧ ∀ j (hj : j < vs.length), w.cell? ⟨b, j, none⟩ = some vs[j] := by
  rcases ownS_cases h with ⟨_, e, e', _⟩ | ⟨hl, _, b, sp, t, hsa, _, h1⟩
  · simp [e'] at hi
  · refine ⟨b, hsa, fun j hj => ?_⟩
    rw [h1.cell, List.getElem?_toArray, List.getElem?_append_left hj, List.getElem?_eq_getElem hj]
theorem ownS_cells {sz : Nat} {s : SV} {vs : List Value} {R : HP} {w : World} (h : Sat (ownS sz s vs * R) w) : ∀ ad, s.a = some ad → cellsAt w ad 0 vs := by
  intro ad had
  rw [cellsAt_iff]
  intro j hj
  obtain ⟨b, hb, hc⟩ := ownS_cell h hj
  rw [had] at hb; cases hb
  simpa using hc j hj
theorem ownS_none {sz : Nat} {s : SV} {vs : List Value} {R : HP} {w : World} (h : Sat (ownS sz s vs * R) w) : s.a = none → s.n = 0 := by
  intro hn
  rcases ownS_cases h with ⟨_, e, _⟩ | ⟨_, _, b, _, _, hsa, _⟩
  · exact e
  · rw [hn] at hsa; cases hsa
theorem append_own {sz t bytes : Nat} {s b : SV} {vs news z : List Value} {R : HP} {w : World} {K : SV → World → Prop} (h : Sat (ownS sz s vs * R) w) (hn : news.length = b.n * sz) (ho : news.all one = true)
    (hb : ∀ ad, b.a = some ad → cellsAt w ad 0 news) (hb0 : b.a = none → b.n = 0) (hcap : (s.n + b.n) * bytes ≤ 2 ^ 44) (hby : 0 < bytes ∧ bytes ≤ 2 ^ 20) (hz : z.length = sz)
    (hk : ∀ s' w', s'.n = s.n + b.n → Sat (ownS sz s' (vs ++ news) * R) w' → K s' w') : appendR s b sz bytes z t w K := by
  refine ⟨news, hn, ho, hb, hb0, fun hfit => ?_, fun hgrow => ⟨newCapOk_of hgrow hcap hby.2, by omega, vs, ownS_length h, ownS_cells h, ownS_none h, fun cap hc => ?_⟩⟩
  · rcases ownS_cases h with ⟨e1, e2, e3, h1⟩ | ⟨hl, hc, bk, sp, t', hsa, hsl, h1⟩
    · have hbn : b.n = 0 := by omega
      have hnews : news = [] := by rw [← List.length_eq_zero_iff, hn, hbn]; simp
      subst hnews
      refine ⟨fun ad _ => by simp [storable], hk _ _ rfl ?_⟩
      have : storeO s.a w (s.n * sz) [] = w := by unfold storeO; split <;> rfl
      rw [this]
      have e : (⟨s.a, s.n + b.n, s.c⟩ : SV) = s := by cases s; simp_all
      rw [e]; simpa using h
    · have hsp : news.length ≤ sp.length := by
        have : (s.n + b.n) * sz ≤ s.c * sz := Nat.mul_le_mul_right _ hfit
        rw [Nat.add_mul] at this; omega
      obtain ⟨old, sp', e, hle⟩ : ∃ old sp', sp = old ++ sp' ∧ old.length = news.length := ⟨sp.take news.length, sp.drop news.length, by simp, by simp [hsp]⟩
      subst e
      refine ⟨fun ad had => ?_, hk _ _ rfl ?_⟩
      · rw [hsa] at had; cases had
        rw [storable_iff]
        intro j hj
        simp only [add_mk]
        constructor
        · rw [h1.cell]
          exact exists_get (by simp only [List.length_append]; omega)
        · exact h1.frozen _
      · rw [← List.append_assoc] at h1
        have h2 := Sat.storeAll news old vs 0 (o := s.n * sz) h1 (by omega) hle
        rw [hsa]
        simp only [storeO, add_mk, Nat.zero_add]
        refine ownS_mk (sp := sp') h2 ?_ hfit ?_
        · simp only [List.length_append, hl, hn, Nat.add_mul]
        · simp only [List.length_append] at hsl ⊢; omega
  · refine hk _ _ rfl ?_
    rcases ownS_cases h with ⟨e1, e2, e3, h1⟩ | ⟨hl, hc, bk, sp, t', hsa, hsl, h1⟩
    · subst e3
      refine ownS_mk (sp := zrow z (cap - (s.n + b.n))) (h1.alloc _).drew ?_ (by omega) ?_
      · simp [hn, e2]
      · simp only [List.nil_append, hn, zrow_length, hz, e2, Nat.zero_add] at hc ⊢
        rw [← Nat.add_mul]; congr 1; omega
    · refine ownS_mk (sp := zrow z (cap - (s.n + b.n))) (h1.right.alloc _).drew ?_ (by assumption) ?_
      · simp only [List.length_append, hl, hn, Nat.add_mul]
      · simp only [List.length_append, hl, hn, zrow_length, hz]
        rw [← Nat.add_mul, ← Nat.add_mul]; congr 1; omega
/-- What lies in memory of one's own may be written. -/
theorem ownS_store {sz : Nat} {s : SV} {vs : List Value} {R : HP} {w : World} (h : Sat (ownS sz s vs * R) w) {pre old post news : List Value} (hv : vs = pre ++ old ++ post) (hl : old.length = news.length) (h0 : 0 < old.length) :
    ∃ b, s.a = some ⟨b, 0, none⟩ ∧ storable w ⟨b, pre.length, none⟩ 0 news ∧ Sat (ownS sz s (pre ++ news ++ post) * R) (storeAll w ⟨b, pre.length, none⟩ 0 news) := by
  subst hv
  rcases ownS_cases h with ⟨e1, e2, e3, h1⟩ | ⟨hvl, hc, b, sp, t, hsa, hsl, h1⟩
  · simp only [List.append_eq_nil_iff] at e3
    simp [e3.1.2] at h0
  · refine ⟨b, hsa, ?_, ?_⟩
    · rw [storable_iff]
      intro j hj
      simp only [add_mk]
      constructor
      · rw [h1.cell]
        exact exists_get (by simp only [List.length_append]; omega)
      · exact h1.frozen _
    · have h2 := Sat.storeAll (post := post ++ sp) news old pre 0 (o := pre.length) (by simpa using h1) (by omega) hl
      obtain ⟨a, n, c⟩ := s
      cases hsa
      refine ownS_mk (sp := sp) (by simpa using h2) ?_ hc ?_
      · simp only [List.length_append] at hvl ⊢; omega
      · simp only [List.length_append] at hsl ⊢; omega
/-- The cells of a thing of one's own. -/
def objA (p : Option Addr) (vs : List Value) : HP := fun h => ∃ b t, p = some ⟨b, 0, none⟩ ∧ pt b (.cells vs.toArray t (0, 0)) h
theorem objA_open {p : Option Addr} {vs : List Value} {R : HP} {w : World} (h : Sat (objA p vs * R) w) : ∃ b t, p = some ⟨b, 0, none⟩ ∧ Sat (pt b (.cells vs.toArray t (0, 0)) * R) w := by
  obtain ⟨g, hg, h1, h2, hd, hu, ⟨b, t, e, ha⟩, hr⟩ := h
  exact ⟨b, t, e, g, hg, h1, h2, hd, hu, ha, hr⟩
theorem objA_close {b t : Nat} {vs : List Value} {R : HP} {w : World} (h : Sat (pt b (.cells vs.toArray t (0, 0)) * R) w) : Sat (objA (some ⟨b, 0, none⟩) vs * R) w :=
  h.imp_left fun _ ha => ⟨b, t, rfl, ha⟩
theorem objA_cells {b : Nat} {vs : List Value} {R : HP} {w : World} (h : Sat (objA (some ⟨b, 0, none⟩) vs * R) w) : (∀ i, w.cell? ⟨b, i, none⟩ = vs[i]?) ∧ ∀ i, w.frozen? ⟨b, i, none⟩ = false := by
  obtain ⟨b', t, e, h1⟩ := objA_open h
  cases e
  exact ⟨fun i => by rw [h1.cell]; simp, h1.frozen⟩
theorem objA_set {b : Nat} {vs : List Value} {R : HP} {w : World} (h : Sat (objA (some ⟨b, 0, none⟩) vs * R) w) (i : Nat) (v : Value) : Sat (objA (some ⟨b, 0, none⟩) (vs.set i v) * R) (w.setCell ⟨b, i, none⟩ v) := by
  obtain ⟨b', t, e, h1⟩ := objA_open h
  cases e
  have := h1.setCell i v
  rw [List.setIfInBounds_toArray] at this
  exact objA_close this
theorem objA_new {t : Nat} {vs : List Value} {R : HP} {w : World} (h : Sat R w) : Sat (objA (some ⟨w.heap.size, 0, none⟩) vs * R) (w.alloc (.cells vs.toArray t)) := objA_close (h.alloc _)
/-- A store into a thing of one's own, as a condition asks for it. -/
theorem objA_store {b i : Nat} {vs : List Value} {v : Value} {R : HP} {w : World} {K : World → Prop} (h : Sat (objA (some ⟨b, 0, none⟩) vs * R) w) (hi : i < vs.length)
    (hk : ∀ w', Sat (objA (some ⟨b, 0, none⟩) (vs.set i v) * R) w' → K w') : ((∃ u, w.cell? ⟨b, i, none⟩ = some u) ∧ w.frozen? ⟨b, i, none⟩ = false) ∧ (true = true) ∧ withW (w.setCell ⟨b, i, none⟩ v) K :=
  ⟨⟨⟨vs[i], by rw [(objA_cells h).1]; simp⟩, (objA_cells h).2 i⟩, rfl, hk _ (objA_set h i v)⟩
theorem objA_storeT {b i : Nat} {vs : List Value} {v : Value} {R : HP} {w : World} {K : World → Prop} (h : Sat (objA (some ⟨b, 0, none⟩) vs * R) w) (hi : i < vs.length)
    (hk : ∀ w', Sat (objA (some ⟨b, 0, none⟩) (vs.set i v) * R) w' → K w') : ((∃ u, w.cell? ⟨b, i, none⟩ = some u) ∧ w.frozen? ⟨b, i, none⟩ = false) ∧ True ∧ withW (w.setCell ⟨b, i, none⟩ v) K :=
  ⟨(objA_store (v := v) h hi hk).1, trivial, (objA_store h hi hk).2.2⟩
/-! ### What is only read -/
def Keep (w w' : World) : Prop := ∀ b, b < w.heap.size → w'.heap[b]? = w.heap[b]?
theorem Keep.refl (w : World) : Keep w w := fun _ _ => rfl
theorem Keep.size {w w' : World} (h : Keep w w') : w.heap.size ≤ w'.heap.size := by
  rcases Nat.eq_zero_or_pos w.heap.size with e | e
  · omega
  · have := h (w.heap.size - 1) (by omega)
    rw [Array.getElem?_eq_getElem (by omega : w.heap.size - 1 < w.heap.size), Array.getElem?_eq_some_iff] at this
    have := this.1; omega
theorem Keep.trans {w w' w'' : World} (h : Keep w w') (h' : Keep w' w'') : Keep w w'' := fun b hb => (h' b (Nat.lt_of_lt_of_le hb h.size)).trans (h b hb)
theorem Keep.sat {w w' : World} {R : HP} (h : Keep w w') (hs : Sat R w) : Sat R w' := hs.grow h
theorem Keep.drew (w : World) : Keep w w.drew := fun _ _ => rfl
theorem Keep.alloc (w : World) (o : Obj) : Keep w (w.alloc o) := fun b hb => by simp only [World.alloc, Array.getElem?_push, Nat.ne_of_lt hb, ↓reduceIte]
theorem Keep.whole {w w' : World} (h : Sat (Sl.whole w) w') : Keep w w' := fun b hb => Sat.whole (R := 1) (by simpa using h) hb
/-- To keep all of a world is to hold it as a frame. -/
theorem keep_i {w : World} {K : World → Prop} (h : ∀ R : HP, Sat R w → (∀ w', Sat R w' → K w') → True → K w) (hk : ∀ w', Keep w w' → K w') : K w :=
  h (Sl.whole w) (sat_whole w) (fun w' hw => hk w' (Keep.whole hw)) trivial
def rowOn (h : Heap) (s : SV) (vs : List Value) : Prop := (s.a = none → vs = []) ∧ ∀ ad, s.a = some ad → ∀ i (hi : i < vs.length), cellH h (ad.add i) = some vs[i]
theorem rowOn_le {h g : Heap} (hg : le h g) {s : SV} {vs : List Value} (hr : rowOn h s vs) : rowOn g s vs := ⟨hr.1, fun ad ha i hi => cellH_le hg (hr.2 ad ha i hi)⟩
theorem rowOn_cells {w : World} {s : SV} {vs : List Value} (h : rowOn (hp w) s vs) : ∀ ad, s.a = some ad → cellsAt w ad 0 vs := fun ad ha => by
  rw [cellsAt_iff]; intro j hj
  rw [Nat.zero_add]; exact h.2 ad ha j hj
theorem sat_self {A : HP} {h : Heap} {w : World} (hw : ∀ b o, h b = some o → w.heap[b]? = some o) (ha : A h) : Sat A w := ⟨h, hw, ha⟩
theorem ownS_on {sz : Nat} {s : SV} {vs : List Value} {h : Heap} (ha : ownS sz s vs h) : rowOn h s vs := by
  rcases ha with ⟨_, _, e, _⟩ | ⟨_, _, b, sp, t, hsa, _, hp⟩
  · subst e; exact ⟨fun _ => rfl, fun _ _ i hi => absurd hi (Nat.not_lt_zero i)⟩
  · refine ⟨fun e => (by rw [hsa] at e; cases e), fun ad had i hi => ?_⟩
    rw [hsa] at had; cases had
    simp only [add_mk, cellH, hp b, ↓reduceIte, Nat.zero_add, Option.isSome_none, Bool.false_eq_true]
    rw [List.getElem?_toArray, List.getElem?_append_left hi, List.getElem?_eq_getElem hi]
end Go.Sl
