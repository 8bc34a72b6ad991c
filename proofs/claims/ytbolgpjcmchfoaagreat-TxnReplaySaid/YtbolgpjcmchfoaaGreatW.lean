/- Assertions on memory; the plain models of the document and what they are in memory. -/
import Derived.Test.YtbolgpjcmchfoaaGreatV1
import Derived.Sort.Statements
import Derived.Shelf.SlSortCmp.WholeK
/- Assertions on parts of the heap that lie apart, and what one step of a function does to them. -/
namespace Go.Sl
open Go Go.Vc
/-! ### Heaps, assertions -/
abbrev Heap := Nat → Option Obj
def hp (w : World) : Heap := fun b => w.heap[b]?
def le (h g : Heap) : Prop := ∀ b o, h b = some o → g b = some o
def HP : Type := Heap → Prop
def sep (A B : HP) : HP := fun h => ∃ h1 h2 : Heap, (∀ b, h1 b = none ∨ h2 b = none) ∧ (∀ b, h b = (h1 b).or (h2 b)) ∧ A h1 ∧ B h2
def emp : HP := fun h => ∀ b, h b = none
instance : Mul HP := ⟨sep⟩
instance : One HP := ⟨emp⟩
def pt (b : Nat) (o : Obj) : HP := fun h => ∀ c, h c = if c = b then some o else none
def lift (φ : Prop) : HP := fun h => φ ∧ ∀ b, h b = none
def ex {α : Sort _} (A : α → HP) : HP := fun h => ∃ x, A x h
def all {α : Type} : List α → (α → HP) → HP
  | [], _ => 1
  | x :: l, A => A x * all l A
def Sat (A : HP) (w : World) : Prop := ∃ h : Heap, le h (hp w) ∧ A h
@[ext] theorem HP.ext {A B : HP} (h : ∀ x, A x ↔ B x) : A = B := funext fun x => propext (h x)
theorem mul_comm' (A B : HP) : A * B = B * A := by
  have key : ∀ A B : HP, ∀ h, (A * B) h → (B * A) h := by
    rintro A B h ⟨h1, h2, hd, hu, ha, hb⟩
    refine ⟨h2, h1, fun b => (hd b).symm, fun b => ?_, hb, ha⟩
    rw [hu b]
    rcases hd b with e | e <;> rw [e] <;> simp
  ext h
  exact ⟨key A B h, key B A h⟩
theorem mul_assoc' (A B C : HP) : A * B * C = A * (B * C) := by
  ext h
  constructor
  · rintro ⟨h12, h3, hd, hu, ⟨h1, h2, hd', hu', ha, hb⟩, hc⟩
    refine ⟨h1, fun b => (h2 b).or (h3 b), fun b => ?_, fun b => ?_, ha, h2, h3, fun b => ?_, fun _ => rfl, hb, hc⟩
    · have := hd b; have := hd' b; rw [hu' b] at *
      cases e1 : h1 b <;> cases e2 : h2 b <;> cases e3 : h3 b <;> simp_all
    · rw [hu b, hu' b]; cases h1 b <;> simp
    · have := hd b; rw [hu' b] at this
      cases e1 : h1 b <;> cases e2 : h2 b <;> cases e3 : h3 b <;> simp_all
  · rintro ⟨h1, h23, hd, hu, ha, h2, h3, hd', hu', hb, hc⟩
    refine ⟨fun b => (h1 b).or (h2 b), h3, fun b => ?_, fun b => ?_, ⟨h1, h2, fun b => ?_, fun _ => rfl, ha, hb⟩, hc⟩
    · have := hd b; have := hd' b; rw [hu' b] at *
      cases e1 : h1 b <;> cases e2 : h2 b <;> cases e3 : h3 b <;> simp_all
    · show h b = ((h1 b).or (h2 b)).or (h3 b)
      rw [hu b, hu' b]; cases h1 b <;> simp
    · have := hd b; rw [hu' b] at this
      cases e1 : h1 b <;> cases e2 : h2 b <;> cases e3 : h3 b <;> simp_all
instance : Std.Commutative (α := HP) (· * ·) := ⟨mul_comm'⟩
instance : Std.Associative (α := HP) (· * ·) := ⟨mul_assoc'⟩
@[simp] theorem one_mul' (A : HP) : 1 * A = A := by
  ext h
  constructor
  · rintro ⟨h1, h2, hd, hu, h0, ha⟩
    have : h = h2 := funext fun b => by rw [hu b, h0 b]; simp
    exact this ▸ ha
  · intro ha
    exact ⟨fun _ => none, h, fun _ => .inl rfl, fun _ => by simp, fun _ => rfl, ha⟩
@[simp] theorem mul_one' (A : HP) : A * 1 = A := by rw [mul_comm', one_mul']
theorem ex_mul {α : Sort _} (A : α → HP) (B : HP) : ex A * B = ex fun x => A x * B := by
  ext h
  constructor
  · rintro ⟨h1, h2, hd, hu, ⟨x, ha⟩, hb⟩
    exact ⟨x, h1, h2, hd, hu, ha, hb⟩
  · rintro ⟨x, h1, h2, hd, hu, ha, hb⟩
    exact ⟨h1, h2, hd, hu, ⟨x, ha⟩, hb⟩
theorem lift_mul (φ : Prop) (B : HP) (h : Heap) : (lift φ * B) h ↔ φ ∧ B h := by
  constructor
  · rintro ⟨h1, h2, hd, hu, ⟨hφ, h0⟩, hb⟩
    have : h = h2 := funext fun b => by rw [hu b, h0 b]; simp
    exact ⟨hφ, this ▸ hb⟩
  · rintro ⟨hφ, hb⟩
    exact ⟨fun _ => none, h, fun _ => .inl rfl, fun _ => by simp, ⟨hφ, fun _ => rfl⟩, hb⟩
theorem all_append {α : Type} (l r : List α) (A : α → HP) : all (l ++ r) A = all l A * all r A := by
  induction l with
  | nil => simp [all]
  | cons x l ih => simp [all, ih, mul_assoc']
/-! ### What holds in a world -/
theorem Sat.eq {A B : HP} {w : World} (h : Sat A w) (e : A = B) : Sat B w := e ▸ h
theorem Sat.imp {A B : HP} {w : World} (h : Sat A w) (e : ∀ g, A g → B g) : Sat B w := let ⟨g, hg, ha⟩ := h; ⟨g, hg, e _ ha⟩
theorem Sat.imp_left {A B R : HP} {w : World} (h : Sat (A * R) w) (e : ∀ g, A g → B g) : Sat (B * R) w := by
  obtain ⟨g, hg, h1, h2, hd, hu, ha, hr⟩ := h
  exact ⟨g, hg, h1, h2, hd, hu, e _ ha, hr⟩
theorem Sat.of_heap {A : HP} {w w' : World} (h : Sat A w) (e : w'.heap = w.heap) : Sat A w' := by
  obtain ⟨g, hg, ha⟩ := h
  refine ⟨g, fun b o hb => ?_, ha⟩
  simpa [hp, e] using hg b o hb
theorem Sat.drew {A : HP} {w : World} (h : Sat A w) : Sat A w.drew := h.of_heap rfl
theorem sat_ex {α : Sort _} {A : α → HP} {w : World} : Sat (ex A) w ↔ ∃ x, Sat (A x) w :=
  ⟨fun ⟨h, hh, x, ha⟩ => ⟨x, h, hh, ha⟩, fun ⟨x, h, hh, ha⟩ => ⟨h, hh, x, ha⟩⟩
theorem sat_lift {φ : Prop} {B : HP} {w : World} : Sat (lift φ * B) w ↔ φ ∧ Sat B w :=
  ⟨fun ⟨h, hh, ha⟩ => ⟨((lift_mul _ _ _).1 ha).1, h, hh, ((lift_mul _ _ _).1 ha).2⟩, fun ⟨hφ, h, hh, ha⟩ => ⟨h, hh, (lift_mul _ _ _).2 ⟨hφ, ha⟩⟩⟩
theorem Sat.right {A B : HP} {w : World} (h : Sat (A * B) w) : Sat B w := by
  obtain ⟨g, hg, h1, h2, hd, hu, ha, hb⟩ := h
  refine ⟨h2, fun b o hb' => hg b o ?_, hb⟩
  rw [hu b, hb']
  rcases hd b with e | e
  · simp [e]
  · rw [e] at hb'; simp at hb'
theorem Sat.left {A B : HP} {w : World} (h : Sat (A * B) w) : Sat A w := (h.eq (mul_comm' A B)).right
/-- From here on any assertion holds that holds of nothing. -/
theorem Sat.one {A : HP} {w : World} (_ : Sat A w) : Sat 1 w := ⟨fun _ => none, fun _ _ h => by simp at h, fun _ => rfl⟩
theorem Sat.get {b : Nat} {o : Obj} {R : HP} {w : World} (h : Sat (pt b o * R) w) : w.heap[b]? = some o := by
  obtain ⟨g, hg, ha⟩ := h.left
  exact hg b o (by rw [ha b]; simp)
theorem Sat.lt {b : Nat} {o : Obj} {R : HP} {w : World} (h : Sat (pt b o * R) w) : b < w.heap.size := by
  have := h.get
  rw [Array.getElem?_eq_some_iff] at this
  exact this.1
theorem hp_lt {w : World} {g : Heap} (hg : le g (hp w)) {b : Nat} (hb : w.heap.size ≤ b) : g b = none := by
  cases e : g b with
  | none => rfl
  | some o =>
    have := hg b o e
    simp only [hp, Array.getElem?_eq_none hb] at this
    cases this
theorem Sat.alloc {R : HP} {w : World} (o : Obj) (h : Sat R w) : Sat (pt w.heap.size o * R) (w.alloc o) := by
  obtain ⟨g, hg, hr⟩ := h
  refine ⟨fun b => if b = w.heap.size then some o else g b, fun b p hb => ?_, fun b => if b = w.heap.size then some o else none, g, fun b => ?_, fun b => ?_, fun _ => rfl, hr⟩
  · simp only [hp, World.alloc, Array.getElem?_push]
    by_cases e : b = w.heap.size
    · simp only [e, ↓reduceIte] at hb ⊢; exact hb
    · simp only [e, ↓reduceIte] at hb ⊢; exact hg b p hb
  · by_cases e : b = w.heap.size
    · exact .inr (hp_lt hg (by omega))
    · simp [e]
  · by_cases e : b = w.heap.size
    · simp [e]
    · simp [e]
theorem Sat.change {b : Nat} {o o' : Obj} {R : HP} {w w' : World} (h : Sat (pt b o * R) w) (hb : w'.heap[b]? = some o') (hc : ∀ c, c ≠ b → w.heap[c]? = w'.heap[c]?) : Sat (pt b o' * R) w' := by
  obtain ⟨g, hg, h1, h2, hd, hu, ha, hr⟩ := h
  have h2b : h2 b = none := by
    rcases hd b with e | e
    · rw [ha b] at e; simp at e
    · exact e
  refine ⟨fun c => if c = b then some o' else h2 c, fun c p hp' => ?_, fun c => if c = b then some o' else none, h2, fun c => ?_, fun c => ?_, fun _ => rfl, hr⟩
  · by_cases e : c = b
    · simp only [e, ↓reduceIte] at hp' ⊢; simp only [hp, hb]; exact hp'
    · simp only [e, ↓reduceIte] at hp'
      have := hg c p (by rw [hu c, ha c]; simp [e, hp'])
      simpa only [hp, ← hc c e] using this
  · by_cases e : c = b
    · subst e; exact .inr h2b
    · simp [e]
  · by_cases e : c = b <;> simp [e]
theorem Sat.setObj {b : Nat} {o : Obj} {R : HP} {w : World} (h : Sat (pt b o * R) w) (o' : Obj) : Sat (pt b o' * R) (World.setObj w b o') := by
  have hl := h.lt
  refine h.change (o' := o') ?_ fun c hc => ?_
  · simp [World.setObj, hl]
  · simp [World.setObj, Ne.symm hc]
theorem Sat.setCell {b : Nat} {c : Array Value} {t : TypeId} {fr : Nat × Nat} {R : HP} {w : World} (h : Sat (pt b (.cells c t fr) * R) w) (i : Nat) (v : Value) :
    Sat (pt b (.cells (c.setIfInBounds i v) t fr) * R) (w.setCell ⟨b, i, none⟩ v) := by
  have hl := h.get
  refine h.change ?_ fun c hc => ?_
  · simp [World.setCell, Array.getElem?_modify, hl]
  · simp [World.setCell, Array.getElem?_modify, Ne.symm hc]

/-! ### Cells -/
@[simp] theorem add_mk (b o n : Nat) : Addr.add ⟨b, o, none⟩ n = ⟨b, o + n, none⟩ := by
  unfold Addr.add
  split <;> simp_all
def cellH (h : Heap) (a : Addr) : Option Value :=
  match h a.block with
  | some (.cells c _ _) => if a.spot.isSome then none else c[a.off]?
  | _ => none
theorem cell_hp (w : World) (a : Addr) : w.cell? a = cellH (hp w) a := rfl
theorem cellH_le {h g : Heap} (hg : le h g) {a : Addr} {v : Value} (e : cellH h a = some v) : cellH g a = some v := by
  unfold cellH at e ⊢
  cases e' : h a.block with
  | none => simp [e'] at e
  | some o => rw [hg _ _ e']; rw [e'] at e; exact e
theorem Sat.cell {b : Nat} {c : Array Value} {t : TypeId} {fr : Nat × Nat} {R : HP} {w : World} (h : Sat (pt b (.cells c t fr) * R) w) (i : Nat) : w.cell? ⟨b, i, none⟩ = c[i]? := by
  simp [World.cell?, h.get]
theorem Sat.frozen {b : Nat} {c : Array Value} {t : TypeId} {R : HP} {w : World} (h : Sat (pt b (.cells c t (0, 0)) * R) w) (i : Nat) : w.frozen? ⟨b, i, none⟩ = false := by
  simp [World.frozen?, h.get]
/-- What is read of a frame is read in the world. -/
theorem Sat.on {A R : HP} {w : World} (h : Sat (A * R) w) {φ : Heap → Prop} (hφ : ∀ g, R g → φ g) (hm : ∀ g g', le g g' → φ g → φ g') : φ (hp w) := by
  obtain ⟨g, hg, hr⟩ := h.right
  exact hm g _ hg (hφ g hr)
/-- All that lies in a world. -/
def whole (w : World) : HP := fun h => ∀ b, h b = w.heap[b]?
theorem sat_whole (w : World) : Sat (whole w) w := ⟨hp w, fun _ _ h => h, fun _ => rfl⟩
theorem Sat.whole {w0 w : World} {R : HP} (h : Sat (Sl.whole w0 * R) w) {b : Nat} (hb : b < w0.heap.size) : w.heap[b]? = w0.heap[b]? := by
  obtain ⟨g, hg, ha⟩ := h.left
  have := hg b w0.heap[b] (by rw [ha b]; simp [hb])
  rw [hp] at this
  rw [this]; simp [hb]
/-- what came of a world by growth alone. -/
theorem Sat.grow {R : HP} {w w' : World} (h : Sat R w) (e : ∀ b, b < w.heap.size → w'.heap[b]? = w.heap[b]?) : Sat R w' := by
  obtain ⟨g, hg, hr⟩ := h
  refine ⟨g, fun b o hb => ?_, hr⟩
  have := hg b o hb
  rw [hp] at this ⊢
  rw [e b]
  · exact this
  · rw [Array.getElem?_eq_some_iff] at this; exact this.1
theorem Sat.grow_new {R : HP} {w w' : World} (h : Sat R w) (e : ∀ b, b < w.heap.size → w'.heap[b]? = w.heap[b]?) {b : Nat} {o : Obj} (hb : w.heap.size ≤ b) (ho : w'.heap[b]? = some o) : Sat (pt b o * R) w' := by
  obtain ⟨g, hg, hr⟩ := h
  refine ⟨fun c => if c = b then some o else g c, fun c p hc => ?_, fun c => if c = b then some o else none, g, fun c => ?_, fun c => ?_, fun _ => rfl, hr⟩
  · by_cases ec : c = b
    · simp only [ec, ↓reduceIte] at hc ⊢; rw [hp, ho]; exact hc
    · simp only [ec, ↓reduceIte] at hc
      have := hg c p hc
      rw [hp] at this ⊢
      rw [e c]
      · exact this
      · rw [Array.getElem?_eq_some_iff] at this; exact this.1
  · by_cases ec : c = b
    · subst ec; exact .inr (hp_lt hg hb)
    · simp [ec]
  · by_cases ec : c = b <;> simp [ec]

/-! ### Introducing the words of the conditions -/
theorem withW_iff {w : World} {k : World → Prop} : withW w k ↔ k w := Iff.rfl
theorem withI_iff {x : Int} {k : Int → Prop} : withI x k ↔ k x := Iff.rfl
theorem gen_w {A : HP} {w : World} (h : Sat A w) {k : World → Prop} (hk : ∀ w', Sat A w' → k w') : withW w k := hk w h
theorem bsplit_iff {b : Bool} {x y : Prop} : bsplit b x y ↔ (b = true → x) ∧ (b = false → y) := by
  cases b <;> simp [bsplit]
theorem bsplit_decide {p : Prop} [Decidable p] {x y : Prop} : bsplit (decide p) x y ↔ (p → x) ∧ (¬ p → y) := by
  rw [bsplit_iff]; simp
theorem onP_some {a : Addr} {k : Addr → Prop} : onP (some a) k ↔ k a := Iff.rfl
theorem onM_some {r : Nat} {k0 : Prop} {k : Nat → Prop} : onM (some r) k0 k ↔ k r := Iff.rfl
end Go.Sl
/- Slices that a function owns: rows of cells; what append and copy do to them. -/
namespace Go.Sl
open Go Go.Vc
/-! ### Runs of cells -/
theorem exists_get {l : List Value} {i : Nat} (h : i < l.length) : ∃ u, l.toArray[i]? = some u := ⟨l[i], by simp [h]⟩
theorem cellsAt_iff {w : World} {a : Addr} : ∀ (vs : List Value) (i : Nat), cellsAt w a i vs ↔ ∀ j (hj : j < vs.length), w.cell? (a.add (i + j)) = some vs[j]
  | [], i => by simp [cellsAt]
  | [v], i => by
    simp only [cellsAt, List.length_singleton]
    constructor
    · intro h j hj
      obtain rfl : j = 0 := by omega
      simpa using h
    · intro h; simpa using h 0 (by omega)
  | v :: u :: r, i => by
    simp only [cellsAt]
    rw [cellsAt_iff (u :: r) (i + 1)]
    constructor
    · rintro ⟨h0, h⟩ j hj
      cases j with
      | zero => simpa using h0
      | succ j =>
        have := h j (by simpa using hj)
        rw [show i + 1 + j = i + (j + 1) from by omega] at this
        simpa using this
    · intro h
      refine ⟨h 0 (by simp), fun j hj => ?_⟩
      have := h (j + 1) (by simpa using hj)
      rw [show i + 1 + j = i + (j + 1) from by omega]
      simpa using this
theorem storable_iff {w : World} {a : Addr} : ∀ (vs : List Value) (i : Nat), storable w a i vs ↔ ∀ j, j < vs.length → (∃ u, w.cell? (a.add (i + j)) = some u) ∧ w.frozen? (a.add (i + j)) = false
  | [], i => by simp [storable]
  | [v], i => by
    simp only [storable, List.length_singleton]
    constructor
    · intro h j hj
      obtain rfl : j = 0 := by omega
      simpa using h
    · intro h; simpa using h 0 (by omega)
  | v :: u :: r, i => by
    simp only [storable]
    rw [storable_iff (u :: r) (i + 1)]
    constructor
    · rintro ⟨h0, h⟩ j hj
      cases j with
      | zero => simpa using h0
      | succ j =>
        have := h j (by simpa using hj)
        rw [show i + 1 + j = i + (j + 1) from by omega] at this
        simpa using this
    · intro h
      refine ⟨by simpa using h 0 (by simp), fun j hj => ?_⟩
      have := h (j + 1) (by simpa using hj)
      rw [show i + 1 + j = i + (j + 1) from by omega]
      simpa using this
theorem Sat.storeAll {b : Nat} {t : TypeId} {R : HP} {o : Nat} {post : List Value} : ∀ (vs old pre : List Value) (i : Nat) {w : World}, Sat (pt b (.cells (pre ++ old ++ post).toArray t (0, 0)) * R) w → pre.length = o + i → old.length = vs.length →
    Sat (pt b (.cells (pre ++ vs ++ post).toArray t (0, 0)) * R) (Vc.storeAll w ⟨b, o, none⟩ i vs)
  | [], old, pre, i, w, h, _, hl => by
    obtain rfl : old = [] := List.length_eq_zero_iff.1 hl
    exact h
  | v :: r, old, pre, i, w, h, hp, hl => by
    cases old with
    | nil => simp at hl
    | cons x old =>
      have h1 := h.setCell (o + i) v
      have e : (pre ++ x :: old ++ post).toArray.setIfInBounds (o + i) v = ((pre ++ [v]) ++ old ++ post).toArray := by
        rw [← hp]; simp
      rw [e] at h1
      have h2 := Sat.storeAll (o := o) (post := post) r old (pre ++ [v]) (i + 1) h1 (by simp only [List.length_append, List.length_singleton]; omega) (by simpa using hl)
      simp only [Vc.storeAll, add_mk]
      simpa using h2

/-! ### The capacity of what grows -/
theorem growBy_le {N : Nat} : ∀ (r c : Nat), c ≤ 2 * N + 800 → Builtin.growBy N r c ≤ 2 * N + 800
  | 0, c, h => h
  | r + 1, c, h => by
    unfold Builtin.growBy
    split
    · exact h
    · exact growBy_le r _ (by omega)
theorem newCapOk_of {n m c bytes : Nat} (hc : c < n + m) (h : (n + m) * bytes ≤ 2 ^ 44) (hb : bytes ≤ 2 ^ 20) : newCapOk n m c bytes := by
  unfold newCapOk
  have h1 : Builtin.nextslicecap (n + m) c ≤ 2 * (n + m) + 800 := by
    unfold Builtin.nextslicecap
    split
    · omega
    · split
      · omega
      · exact growBy_le _ _ (by omega)
  calc _ ≤ (2 * (n + m) + 800) * bytes := Nat.mul_le_mul_right _ h1
    _ = 2 * ((n + m) * bytes) + 800 * bytes := by rw [Nat.add_mul, Nat.mul_assoc]
    _ ≤ 2 ^ 48 := by omega

/-! ### Rows of one's own -/
/-- A slice whose row of cells is one's own: 'vs' its cells, each element 'sz' of them. -/
def ownS (sz : Nat) (s : SV) (vs : List Value) : HP := fun h =>
  (s.c = 0 ∧ s.n = 0 ∧ vs = [] ∧ ∀ b, h b = none) ∨
  (vs.length = s.n * sz ∧ s.n ≤ s.c ∧ ∃ b sp t, s.a = some ⟨b, 0, none⟩ ∧ vs.length + sp.length = s.c * sz ∧ pt b (.cells (vs ++ sp).toArray t (0, 0)) h)
theorem ownS_cases {sz : Nat} {s : SV} {vs : List Value} {R : HP} {w : World} (h : Sat (ownS sz s vs * R) w) :
    (s.c = 0 ∧ s.n = 0 ∧ vs = [] ∧ Sat R w) ∨ (vs.length = s.n * sz ∧ s.n ≤ s.c ∧ ∃ b sp t, s.a = some ⟨b, 0, none⟩ ∧ vs.length + sp.length = s.c * sz ∧ Sat (pt b (.cells (vs ++ sp).toArray t (0, 0)) * R) w) := by
  obtain ⟨g, hg, h1, h2, hd, hu, ha, hr⟩ := h
  rcases ha with ⟨e1, e2, e3, h0⟩ | ⟨hl, hc, b, sp, t, hsa, hsl, hp⟩
  · exact .inl ⟨e1, e2, e3, Sat.right (A := 1) ⟨g, hg, h1, h2, hd, hu, h0, hr⟩⟩
  · exact .inr ⟨hl, hc, b, sp, t, hsa, hsl, g, hg, h1, h2, hd, hu, hp, hr⟩
theorem ownS_nil {sz : Nat} {s : SV} {R : HP} {w : World} (h : Sat R w) (hc : s.c = 0) (hn : s.n = 0) : Sat (ownS sz s [] * R) w := by
  refine Sat.imp_left (A := 1) (by simpa using h) fun g hg => .inl ⟨hc, hn, rfl, hg⟩
theorem ownS_mk {sz t b n c : Nat} {vs sp : List Value} {R : HP} {w : World} (h : Sat (pt b (.cells (vs ++ sp).toArray t (0, 0)) * R) w) (hn : vs.length = n * sz) (hc : n ≤ c) (hs : vs.length + sp.length = c * sz) :
    Sat (ownS sz ⟨some ⟨b, 0, none⟩, n, c⟩ vs * R) w :=
  Sat.imp_left h fun _ hg => .inr ⟨hn, hc, b, sp, t, rfl, hs, hg⟩
theorem ownS_length {sz : Nat} {s : SV} {vs : List Value} {R : HP} {w : World} (h : Sat (ownS sz s vs * R) w) : vs.length = s.n * sz := by
  rcases ownS_cases h with ⟨_, e, e', _⟩ | ⟨hl, _⟩
  · simp [e, e']
  · exact hl
theorem ownS_cell {sz : Nat} {s : SV} {vs : List Value} {R : HP} {w : World} (h : Sat (ownS sz s vs * R) w) {i : Nat} (hi : i < vs.length) : ∃ b, s.a = some ⟨b, 0, none⟩ ∧ ∀ j (hj : j < vs.length), w.cell? ⟨b, j, none⟩ = some vs[j] := by
  rcases ownS_cases h with ⟨_, e, e', _⟩ | ⟨hl, _, b, sp, t, hsa, _, h1⟩
  · simp [e'] at hi
  · refine ⟨b, hsa, fun j hj => ?_⟩
    rw [h1.cell, List.getElem?_toArray, List.getElem?_append_left hj, List.getElem?_eq_getElem hj]
theorem ownS_cells {sz : Nat} {s : SV} {vs : List Value} {R : HP} {w : World} (h : Sat (ownS sz s vs * R) w) : ∀ ad, s.a = some ad → cellsAt w ad 0 vs := by
  intro ad had
  rw [cellsAt_iff]
  intro j hj
  obtain ⟨b, hb, hc⟩ := ownS_cell h hj
  rw [had] at hb; cases hb
  simpa using hc j hj
theorem ownS_cap {sz : Nat} {s : SV} {vs : List Value} {R : HP} {w : World} (h : Sat (ownS sz s vs * R) w) : s.n ≤ s.c := by
  rcases ownS_cases h with ⟨e, e', _⟩ | ⟨_, e, _⟩
  · omega
  · exact e
theorem ownS_none {sz : Nat} {s : SV} {vs : List Value} {R : HP} {w : World} (h : Sat (ownS sz s vs * R) w) : s.a = none → s.n = 0 := by
  intro hn
  rcases ownS_cases h with ⟨_, e, _⟩ | ⟨_, _, b, _, _, hsa, _⟩
  · exact e
  · rw [hn] at hsa; cases hsa
theorem append_own {sz t bytes : Nat} {s b : SV} {vs news z : List Value} {R : HP} {w : World} {K : SV → World → Prop} (h : Sat (ownS sz s vs * R) w) (hn : news.length = b.n * sz) (ho : news.all one = true)
    (hb : ∀ ad, b.a = some ad → cellsAt w ad 0 news) (hb0 : b.a = none → b.n = 0) (hcap : (s.n + b.n) * bytes ≤ 2 ^ 44) (hby : 0 < bytes ∧ bytes ≤ 2 ^ 20) (hz : z.length = sz)
    (hk : ∀ s' w', s'.n = s.n + b.n → Sat (ownS sz s' (vs ++ news) * R) w' → K s' w') : appendR s b sz bytes z t w K := by
  refine ⟨news, hn, ho, hb, hb0, fun hfit => ?_, fun hgrow => ⟨newCapOk_of hgrow hcap hby.2, by omega, vs, ownS_length h, ownS_cells h, ownS_none h, fun cap hc => ?_⟩⟩
  · rcases ownS_cases h with ⟨e1, e2, e3, h1⟩ | ⟨hl, hc, bk, sp, t', hsa, hsl, h1⟩
    · have hbn : b.n = 0 := by omega
      have hnews : news = [] := by rw [← List.length_eq_zero_iff, hn, hbn]; simp
      subst hnews
      refine ⟨fun ad _ => by simp [storable], hk _ _ rfl ?_⟩
      have : storeO s.a w (s.n * sz) [] = w := by unfold storeO; split <;> rfl
      rw [this]
      have e : (⟨s.a, s.n + b.n, s.c⟩ : SV) = s := by cases s; simp_all
      rw [e]; simpa using h
    · have hsp : news.length ≤ sp.length := by
        have : (s.n + b.n) * sz ≤ s.c * sz := Nat.mul_le_mul_right _ hfit
        rw [Nat.add_mul] at this; omega
      obtain ⟨old, sp', e, hle⟩ : ∃ old sp', sp = old ++ sp' ∧ old.length = news.length := ⟨sp.take news.length, sp.drop news.length, by simp, by simp [hsp]⟩
      subst e
      refine ⟨fun ad had => ?_, hk _ _ rfl ?_⟩
      · rw [hsa] at had; cases had
        rw [storable_iff]
        intro j hj
        simp only [add_mk]
        constructor
        · rw [h1.cell]
          exact exists_get (by simp only [List.length_append]; omega)
        · exact h1.frozen _
      · rw [← List.append_assoc] at h1
        have h2 := Sat.storeAll news old vs 0 (o := s.n * sz) h1 (by omega) hle
        rw [hsa]
        simp only [storeO, add_mk, Nat.zero_add]
        refine ownS_mk (sp := sp') h2 ?_ hfit ?_
        · simp only [List.length_append, hl, hn, Nat.add_mul]
        · simp only [List.length_append] at hsl ⊢; omega
  · refine hk _ _ rfl ?_
    rcases ownS_cases h with ⟨e1, e2, e3, h1⟩ | ⟨hl, hc, bk, sp, t', hsa, hsl, h1⟩
    · subst e3
      refine ownS_mk (sp := zrow z (cap - (s.n + b.n))) (h1.alloc _).drew ?_ (by omega) ?_
      · simp [hn, e2]
      · simp only [List.nil_append, hn, zrow_length, hz, e2, Nat.zero_add] at hc ⊢
        rw [← Nat.add_mul]; congr 1; omega
    · refine ownS_mk (sp := zrow z (cap - (s.n + b.n))) (h1.right.alloc _).drew ?_ (by assumption) ?_
      · simp only [List.length_append, hl, hn, Nat.add_mul]
      · simp only [List.length_append, hl, hn, zrow_length, hz]
        rw [← Nat.add_mul, ← Nat.add_mul]; congr 1; omega
/-- What lies in memory of one's own may be written. -/
theorem ownS_store {sz : Nat} {s : SV} {vs : List Value} {R : HP} {w : World} (h : Sat (ownS sz s vs * R) w) {pre old post news : List Value} (hv : vs = pre ++ old ++ post) (hl : old.length = news.length) (h0 : 0 < old.length) :
    ∃ b, s.a = some ⟨b, 0, none⟩ ∧ storable w ⟨b, pre.length, none⟩ 0 news ∧ Sat (ownS sz s (pre ++ news ++ post) * R) (storeAll w ⟨b, pre.length, none⟩ 0 news) := by
  subst hv
  rcases ownS_cases h with ⟨e1, e2, e3, h1⟩ | ⟨hvl, hc, b, sp, t, hsa, hsl, h1⟩
  · simp only [List.append_eq_nil_iff] at e3
    simp [e3.1.2] at h0
  · refine ⟨b, hsa, ?_, ?_⟩
    · rw [storable_iff]
      intro j hj
      simp only [add_mk]
      constructor
      · rw [h1.cell]
        exact exists_get (by simp only [List.length_append]; omega)
      · exact h1.frozen _
    · have h2 := Sat.storeAll (post := post ++ sp) news old pre 0 (o := pre.length) (by simpa using h1) (by omega) hl
      obtain ⟨a, n, c⟩ := s
      cases hsa
      refine ownS_mk (sp := sp) (by simpa using h2) ?_ hc ?_
      · simp only [List.length_append] at hvl ⊢; omega
      · simp only [List.length_append] at hsl ⊢; omega
/-- The cells of a thing of one's own. -/
def objA (p : Option Addr) (vs : List Value) : HP := fun h => ∃ b t, p = some ⟨b, 0, none⟩ ∧ pt b (.cells vs.toArray t (0, 0)) h
theorem objA_open {p : Option Addr} {vs : List Value} {R : HP} {w : World} (h : Sat (objA p vs * R) w) : ∃ b t, p = some ⟨b, 0, none⟩ ∧ Sat (pt b (.cells vs.toArray t (0, 0)) * R) w := by
  obtain ⟨g, hg, h1, h2, hd, hu, ⟨b, t, e, ha⟩, hr⟩ := h
  exact ⟨b, t, e, g, hg, h1, h2, hd, hu, ha, hr⟩
theorem objA_close {b t : Nat} {vs : List Value} {R : HP} {w : World} (h : Sat (pt b (.cells vs.toArray t (0, 0)) * R) w) : Sat (objA (some ⟨b, 0, none⟩) vs * R) w :=
  h.imp_left fun _ ha => ⟨b, t, rfl, ha⟩
theorem objA_cells {b : Nat} {vs : List Value} {R : HP} {w : World} (h : Sat (objA (some ⟨b, 0, none⟩) vs * R) w) : (∀ i, w.cell? ⟨b, i, none⟩ = vs[i]?) ∧ ∀ i, w.frozen? ⟨b, i, none⟩ = false := by
  obtain ⟨b', t, e, h1⟩ := objA_open h
  cases e
  exact ⟨fun i => by rw [h1.cell]; simp, h1.frozen⟩
theorem objA_set {b : Nat} {vs : List Value} {R : HP} {w : World} (h : Sat (objA (some ⟨b, 0, none⟩) vs * R) w) (i : Nat) (v : Value) : Sat (objA (some ⟨b, 0, none⟩) (vs.set i v) * R) (w.setCell ⟨b, i, none⟩ v) := by
  obtain ⟨b', t, e, h1⟩ := objA_open h
  cases e
  have := h1.setCell i v
  rw [List.setIfInBounds_toArray] at this
  exact objA_close this
theorem objA_new {t : Nat} {vs : List Value} {R : HP} {w : World} (h : Sat R w) : Sat (objA (some ⟨w.heap.size, 0, none⟩) vs * R) (w.alloc (.cells vs.toArray t)) := objA_close (h.alloc _)
/-- A store into a thing of one's own, as a condition asks for it. -/
theorem objA_store {b i : Nat} {vs : List Value} {v : Value} {R : HP} {w : World} {K : World → Prop} (h : Sat (objA (some ⟨b, 0, none⟩) vs * R) w) (hi : i < vs.length)
    (hk : ∀ w', Sat (objA (some ⟨b, 0, none⟩) (vs.set i v) * R) w' → K w') : ((∃ u, w.cell? ⟨b, i, none⟩ = some u) ∧ w.frozen? ⟨b, i, none⟩ = false) ∧ (true = true) ∧ withW (w.setCell ⟨b, i, none⟩ v) K :=
  ⟨⟨⟨vs[i], by rw [(objA_cells h).1]; simp⟩, (objA_cells h).2 i⟩, rfl, hk _ (objA_set h i v)⟩
theorem objA_storeT {b i : Nat} {vs : List Value} {v : Value} {R : HP} {w : World} {K : World → Prop} (h : Sat (objA (some ⟨b, 0, none⟩) vs * R) w) (hi : i < vs.length)
    (hk : ∀ w', Sat (objA (some ⟨b, 0, none⟩) (vs.set i v) * R) w' → K w') : ((∃ u, w.cell? ⟨b, i, none⟩ = some u) ∧ w.frozen? ⟨b, i, none⟩ = false) ∧ True ∧ withW (w.setCell ⟨b, i, none⟩ v) K :=
  ⟨(objA_store (v := v) h hi hk).1, trivial, (objA_store h hi hk).2.2⟩
/-! ### What is only read -/
def Keep (w w' : World) : Prop := ∀ b, b < w.heap.size → w'.heap[b]? = w.heap[b]?
theorem Keep.refl (w : World) : Keep w w := fun _ _ => rfl
theorem Keep.size {w w' : World} (h : Keep w w') : w.heap.size ≤ w'.heap.size := by
  rcases Nat.eq_zero_or_pos w.heap.size with e | e
  · omega
  · have := h (w.heap.size - 1) (by omega)
    rw [Array.getElem?_eq_getElem (by omega : w.heap.size - 1 < w.heap.size), Array.getElem?_eq_some_iff] at this
    have := this.1; omega
theorem Keep.trans {w w' w'' : World} (h : Keep w w') (h' : Keep w' w'') : Keep w w'' := fun b hb => (h' b (Nat.lt_of_lt_of_le hb h.size)).trans (h b hb)
theorem Keep.sat {w w' : World} {R : HP} (h : Keep w w') (hs : Sat R w) : Sat R w' := hs.grow h
theorem Keep.drew (w : World) : Keep w w.drew := fun _ _ => rfl
theorem Keep.alloc (w : World) (o : Obj) : Keep w (w.alloc o) := fun b hb => by simp only [World.alloc, Array.getElem?_push, Nat.ne_of_lt hb, ↓reduceIte]
theorem Keep.whole {w w' : World} (h : Sat (Sl.whole w) w') : Keep w w' := fun b hb => Sat.whole (R := 1) (by simpa using h) hb
def rowOn (h : Heap) (s : SV) (vs : List Value) : Prop := (s.a = none → vs = []) ∧ ∀ ad, s.a = some ad → ∀ i (hi : i < vs.length), cellH h (ad.add i) = some vs[i]
theorem rowOn_le {h g : Heap} (hg : le h g) {s : SV} {vs : List Value} (hr : rowOn h s vs) : rowOn g s vs := ⟨hr.1, fun ad ha i hi => cellH_le hg (hr.2 ad ha i hi)⟩
theorem rowOn_cells {w : World} {s : SV} {vs : List Value} (h : rowOn (hp w) s vs) : ∀ ad, s.a = some ad → cellsAt w ad 0 vs := fun ad ha => by
  rw [cellsAt_iff]; intro j hj
  rw [Nat.zero_add]; exact h.2 ad ha j hj
theorem ownS_on {sz : Nat} {s : SV} {vs : List Value} {h : Heap} (ha : ownS sz s vs h) : rowOn h s vs := by
  rcases ha with ⟨_, _, e, _⟩ | ⟨_, _, b, sp, t, hsa, _, hp⟩
  · subst e; exact ⟨fun _ => rfl, fun _ _ i hi => absurd hi (Nat.not_lt_zero i)⟩
  · refine ⟨fun e => (by rw [hsa] at e; cases e), fun ad had i hi => ?_⟩
    rw [hsa] at had; cases had
    simp only [add_mk, cellH, hp b, ↓reduceIte, Nat.zero_add, Option.isSome_none, Bool.false_eq_true]
    rw [List.getElem?_toArray, List.getElem?_append_left hi, List.getElem?_eq_getElem hi]
end Go.Sl
/- Maps that a function owns; a range over one. -/
namespace Go.Sl
open Go Go.Vc
/-! ### Lists of keys and values -/
section
variable {α β : Type}
def lkp : List (Int × α) → Int → Option α
  | [], _ => none
  | (i, x) :: r, k => if k = i then some x else lkp r k
def put : List (Int × α) → Int → α → List (Int × α)
  | [], k, v => [(k, v)]
  | (i, x) :: r, k, v => if k = i then (i, v) :: r else (i, x) :: put r k v
def del : List (Int × α) → Int → List (Int × α)
  | [], _ => []
  | (i, x) :: r, k => if k = i then r else (i, x) :: del r k
def on2 (f : α → β) (l : List (Int × α)) : List (Int × β) := l.map fun p => (p.1, f p.2)
theorem lkp_on2 (f : α → β) (l : List (Int × α)) (k : Int) : lkp (on2 f l) k = (lkp l k).map f := by
  induction l with
  | nil => rfl
  | cons p r ih => simp only [on2, List.map_cons, lkp] at ih ⊢; split <;> simp_all
theorem put_on2 (f : α → β) (l : List (Int × α)) (k : Int) (v : α) : put (on2 f l) k (f v) = on2 f (put l k v) := by
  induction l with
  | nil => rfl
  | cons p r ih => simp only [on2, List.map_cons, put] at ih ⊢; split <;> simp_all
theorem del_on2 (f : α → β) (l : List (Int × α)) (k : Int) : del (on2 f l) k = on2 f (del l k) := by
  induction l with
  | nil => rfl
  | cons p r ih => simp only [on2, List.map_cons, del] at ih ⊢; split <;> simp_all
theorem length_on2 (f : α → β) (l : List (Int × α)) : (on2 f l).length = l.length := by simp [on2]
theorem lkp_put (l : List (Int × α)) (k j : Int) (v : α) : lkp (put l k v) j = if j = k then some v else lkp l j := by
  induction l with
  | nil => simp [put, lkp]
  | cons p r ih =>
    simp only [put]
    by_cases h : k = p.1
    · simp only [h, ↓reduceIte, lkp]
      split <;> rfl
    · simp only [h, ↓reduceIte, lkp, ih]
      by_cases hj : j = p.1
      · have : j ≠ k := by omega
        simp_all
      · simp [hj]
theorem lkp_mem {l : List (Int × α)} {k : Int} {v : α} (h : lkp l k = some v) : (k, v) ∈ l := by
  induction l with
  | nil => simp [lkp] at h
  | cons p r ih =>
    simp only [lkp] at h
    split at h
    · rename_i e; subst e; cases h; simp
    · simp [ih h]
theorem lkp_none {l : List (Int × α)} {k : Int} : lkp l k = none ↔ k ∉ l.map Prod.fst := by
  induction l with
  | nil => simp [lkp]
  | cons p r ih => simp only [lkp]; split <;> simp_all
theorem lkp_of_mem {l : List (Int × α)} (hn : (l.map Prod.fst).Nodup) {k : Int} {v : α} (h : (k, v) ∈ l) : lkp l k = some v := by
  induction l with
  | nil => simp at h
  | cons p r ih =>
    simp only [List.map_cons, List.nodup_cons] at hn
    simp only [lkp]
    rcases List.mem_cons.1 h with e | e
    · subst e; simp
    · have : k ≠ p.1 := fun e' => hn.1 (e' ▸ List.mem_map_of_mem (f := Prod.fst) e)
      simp [this, ih hn.2 e]
theorem keys_put (l : List (Int × α)) (k : Int) (v : α) : (put l k v).map Prod.fst = if k ∈ l.map Prod.fst then l.map Prod.fst else l.map Prod.fst ++ [k] := by
  induction l with
  | nil => simp [put]
  | cons p r ih =>
    simp only [put]
    by_cases h : k = p.1
    · simp [h]
    · simp only [h, ↓reduceIte, List.map_cons, ih, List.mem_cons, false_or]
      split <;> simp
theorem put_new {l : List (Int × α)} {k : Int} (h : lkp l k = none) (v : α) : put l k v = l ++ [(k, v)] := by
  induction l with
  | nil => rfl
  | cons p r ih =>
    simp only [lkp] at h
    split at h
    · cases h
    · rename_i e; simp [put, e, ih h]
theorem del_eq (l : List (Int × α)) (hn : (l.map Prod.fst).Nodup) (k : Int) : del l k = l.filter fun p => p.1 ≠ k := by
  induction l with
  | nil => rfl
  | cons p r ih =>
    simp only [List.map_cons, List.nodup_cons] at hn
    simp only [del]
    by_cases h : k = p.1
    · simp only [h, ↓reduceIte]
      rw [List.filter_cons_of_neg (by simp)]
      refine (List.filter_eq_self.2 fun q hq => ?_).symm
      have : q.1 ≠ p.1 := fun e => hn.1 (e ▸ List.mem_map_of_mem (f := Prod.fst) hq)
      simpa using this
    · simp only [h, ↓reduceIte, ih hn.2]
      rw [List.filter_cons_of_pos (by simpa using fun e => h e.symm)]
end
/-! ### A map in the heap -/
def MapOk (es : List En) (clock : Nat) : Prop := (es.map En.k).Nodup ∧ (es.map En.b).Nodup ∧ ∀ e ∈ es, e.b < clock
def kvs (es : List En) : List (Int × Value) := es.map fun e => (e.k, e.v)
def mapE (r : Nat) (es : List En) (clock : Nat) : HP := pt r (.map (entries .i64 es) clock)
def mapA (r : Nat) (l : List (Int × Value)) : HP := ex fun es : List En => ex fun clock : Nat => lift (MapOk es clock ∧ kvs es = l) * mapE r es clock
theorem mapA_open {r : Nat} {l : List (Int × Value)} {R : HP} {w : World} (h : Sat (mapA r l * R) w) : ∃ es clock, MapOk es clock ∧ kvs es = l ∧ Sat (mapE r es clock * R) w := by
  simp only [mapA, ex_mul, mul_assoc', sat_ex, sat_lift] at h
  obtain ⟨es, cl, ⟨h1, h2⟩, h3⟩ := h
  exact ⟨es, cl, h1, h2, h3⟩
theorem mapA_close {r : Nat} {es : List En} {clock : Nat} {R : HP} {w : World} (h : Sat (mapE r es clock * R) w) (ok : MapOk es clock) : Sat (mapA r (kvs es) * R) w := by
  simp only [mapA, ex_mul, mul_assoc', sat_ex, sat_lift]
  exact ⟨es, clock, ⟨ok, rfl⟩, h⟩
theorem mapE_at {r : Nat} {es : List En} {clock : Nat} {R : HP} {w : World} (h : Sat (mapE r es clock * R) w) : mapAt w r .i64 es clock := h.get
theorem findE_kvs (es : List En) (k : Int) : findE es k = lkp (kvs es) k := by
  induction es with
  | nil => rfl
  | cons e r ih => simp only [findE, kvs, List.map_cons, lkp] at ih ⊢; rw [ih]
theorem hasE_kvs (es : List En) (k : Int) : hasE es k = (lkp (kvs es) k).isSome := by
  induction es with
  | nil => rfl
  | cons e r ih => simp only [hasE, kvs, List.map_cons, lkp] at ih ⊢; rw [ih]; split <;> rfl
theorem kvs_set (es : List En) (k : Int) (v : Value) (h : hasE es k = true) : kvs (setE es k v) = put (kvs es) k v := by
  induction es with
  | nil => cases h
  | cons e r ih =>
    simp only [hasE] at h
    simp only [setE, kvs, List.map_cons, put] at ih ⊢
    split at h
    · rename_i e'; simp [e']
    · rename_i e'; simp only [e', ↓reduceIte, List.map_cons, ih h]
theorem kvs_put (es : List En) (c : Nat) (k : Int) (v : Value) : kvs (putM es c k v) = put (kvs es) k v := by
  unfold putM
  split
  · rename_i h; exact kvs_set es k v h
  · rename_i h
    have : lkp (kvs es) k = none := by rw [hasE_kvs] at h; simpa using h
    rw [put_new this]; simp [kvs]
theorem kvs_del (es : List En) (k : Int) : kvs (delE es k) = del (kvs es) k := by
  induction es with
  | nil => rfl
  | cons e r ih => simp only [delE, kvs, List.map_cons, del] at ih ⊢; split <;> simp_all
theorem set_k (es : List En) (k : Int) (v : Value) : (setE es k v).map En.k = es.map En.k := by
  induction es with
  | nil => rfl
  | cons e r ih => simp only [setE]; split <;> simp_all
theorem set_b (es : List En) (k : Int) (v : Value) : (setE es k v).map En.b = es.map En.b := by
  induction es with
  | nil => rfl
  | cons e r ih => simp only [setE]; split <;> simp_all
theorem mem_b {es : List En} {P : Nat → Prop} : (∀ e ∈ es, P e.b) ↔ ∀ b ∈ es.map En.b, P b := by simp
theorem hasE_mem {es : List En} {k : Int} : hasE es k = true ↔ k ∈ es.map En.k := by
  induction es with
  | nil => simp [hasE]
  | cons e r ih => simp only [hasE]; split <;> simp_all
theorem MapOk.put {es : List En} {clock : Nat} (ok : MapOk es clock) (k : Int) (v : Value) : MapOk (putM es clock k v) (putClock es clock k) := by
  obtain ⟨h1, h2, h3⟩ := ok
  unfold putM putClock
  split
  · refine ⟨by rw [set_k]; exact h1, by rw [set_b]; exact h2, ?_⟩
    intro e he
    have : e.b ∈ es.map En.b := set_b es k v ▸ List.mem_map_of_mem (f := En.b) he
    exact (mem_b (P := fun b => b < clock)).1 h3 _ this
  · rename_i h
    rw [hasE_mem] at h
    refine ⟨?_, ?_, ?_⟩
    · rw [List.map_append, List.nodup_append]
      exact ⟨h1, by simp, by intro a ha b hb; simp at hb; subst hb; exact fun e => h (e ▸ ha)⟩
    · rw [List.map_append, List.nodup_append]
      refine ⟨h2, by simp, fun a ha b hb => ?_⟩
      simp at hb; subst hb
      obtain ⟨e, he, rfl⟩ := List.mem_map.1 ha
      exact Nat.ne_of_lt (h3 e he)
    · intro e he
      rcases List.mem_append.1 he with he | he
      · exact Nat.lt_succ_of_lt (h3 e he)
      · simp at he; subst he; exact Nat.lt_succ_self _
theorem del_sublist (es : List En) (k : Int) : (delE es k).Sublist es := by
  induction es with
  | nil => exact List.Sublist.refl _
  | cons e r ih =>
    simp only [delE]; split
    · exact List.sublist_cons_self _ _
    · exact ih.cons_cons _
theorem MapOk.del {es : List En} {clock : Nat} (ok : MapOk es clock) (k : Int) : MapOk (delE es k) clock :=
  ⟨ok.1.sublist ((del_sublist es k).map _), ok.2.1.sublist ((del_sublist es k).map _), fun e he => ok.2.2 e ((del_sublist es k).subset he)⟩
theorem MapOk.nodup {es : List En} {clock : Nat} (ok : MapOk es clock) : ((kvs es).map Prod.fst).Nodup := by
  have : (kvs es).map Prod.fst = es.map En.k := by simp [kvs, Function.comp_def]
  rw [this]; exact ok.1
theorem mapA_nodup {r : Nat} {l : List (Int × Value)} {R : HP} {w : World} (h : Sat (mapA r l * R) w) : (l.map Prod.fst).Nodup := by
  obtain ⟨es, cl, ok, rfl, _⟩ := mapA_open h
  exact ok.nodup
/-- Reading. -/
theorem mapA_get {r : Nat} {l : List (Int × Value)} {R : HP} {w : World} (h : Sat (mapA r l * R) w) : ∃ es, (∃ cl, mapAt w r .i64 es cl) ∧ (∀ k, findE es k = lkp l k) ∧ es.length = l.length := by
  obtain ⟨es, cl, ok, rfl, h1⟩ := mapA_open h
  exact ⟨es, ⟨cl, mapE_at h1⟩, findE_kvs es, by simp [kvs]⟩
/-- Writing. -/
theorem mapA_put {r : Nat} {l : List (Int × Value)} {R : HP} {w : World} (h : Sat (mapA r l * R) w) (k : Int) (v : Value) : ∃ es cl, mapAt w r .i64 es cl ∧ (∀ k, findE es k = lkp l k) ∧
    Sat (mapA r (put l k v) * R) (World.setObj w r (.map (entries .i64 (putM es cl k v)) (putClock es cl k))) := by
  obtain ⟨es, cl, ok, rfl, h1⟩ := mapA_open h
  refine ⟨es, cl, mapE_at h1, findE_kvs es, ?_⟩
  rw [← kvs_put es cl]
  exact mapA_close (Sat.setObj h1 _) (ok.put k v)
theorem mapA_del {r : Nat} {l : List (Int × Value)} {R : HP} {w : World} (h : Sat (mapA r l * R) w) (k : Int) : ∃ es cl, mapAt w r .i64 es cl ∧
    Sat (mapA r (del l k) * R) (World.setObj w r (.map (entries .i64 (delE es k)) cl)) := by
  obtain ⟨es, cl, ok, rfl, h1⟩ := mapA_open h
  refine ⟨es, cl, mapE_at h1, ?_⟩
  rw [← kvs_del es]
  exact mapA_close (Sat.setObj h1 _) (ok.del k)
theorem mapA_new {R : HP} {w : World} (h : Sat R w) : Sat (mapA w.heap.size [] * R) (w.alloc (.map #[] 0)) :=
  mapA_close (es := []) (clock := 0) (h.alloc _) ⟨by simp, by simp, by simp⟩

/-! ### A range over a map -/
def iterP (it r : Nat) (clock : Nat) (seen : Array Nat) : HP := pt it (.mapIter (some r) clock seen clock)
/-- How many are to come. -/
def left (es : List En) (seen : Array Nat) : Nat := (es.filter fun e => !decide (e.b ∈ seen)).length
theorem left_lt {es : List En} {seen : Array Nat} {e : En} (he : e ∈ es) (hs : e.b ∉ seen) : left es (seen.push e.b) < left es seen := by
  unfold left
  induction es with
  | nil => simp at he
  | cons f r ih =>
    have key : (r.filter fun e' => !decide (e'.b ∈ seen.push e.b)).length ≤ (r.filter fun e => !decide (e.b ∈ seen)).length := by
      clear ih he
      induction r with
      | nil => simp
      | cons g q ih =>
        simp only [List.filter_cons]
        by_cases h1 : g.b ∈ seen
        · have : g.b ∈ seen.push e.b := by simp [h1]
          simp [h1, this]; simpa using ih
        · by_cases h2 : g.b ∈ seen.push e.b
          · simp [h1, h2]; have := ih; simp at this; omega
          · simp [h1, h2]; simpa using ih
    simp only [List.filter_cons]
    by_cases h1 : f.b ∈ seen
    · have h2 : f.b ∈ seen.push e.b := by simp [h1]
      have : e ∈ r := by
        rcases List.mem_cons.1 he with e' | e'
        · subst e'; exact absurd h1 hs
        · exact e'
      have := ih this
      simp [h1, h2]; simpa using this
    · by_cases h2 : f.b ∈ seen.push e.b
      · simp [h1, h2]; simp at key; omega
      · rcases List.mem_cons.1 he with e' | e'
        · subst e'; simp at h2
        · have := ih e'
          simp [h1, h2]; simpa using this
abbrev iterR {X : Type} (enc : X → Value) (it : Addr) (w : World) (nil : World → Prop) (body : En → X → World → Prop) (done : World → Prop) : Prop :=
  it.off = 0 ∧ ∃ (m : Option Nat) (si : Nat) (se : Array Nat) (st : Nat), w.heap[it.block]? = some (.mapIter m si se st) ∧
    onM m (nil w) fun m => ∃ (es : List En) (cl : Nat), mapAt w m .i64 es cl ∧ (se = #[] ∨ es = [] ∨ ∃ e ∈ es, e.b < st) ∧
      (∀ e ∈ es, e.b ∉ se → ∀ w1, (w1 = w ∨ w1 = w.drew) → withW (World.setObj w1 it.block (.mapIter (some m) si (se.push e.b) cl)) fun w2 =>
        it.off = 0 ∧ ∃ (m2 si2 : Nat) (se2 : Array Nat) (st2 : Nat), w2.heap[it.block]? = some (.mapIter (some m2) si2 se2 st2) ∧ ∃ (es2 : List En), mapAt w2 m2 .i64 es2 st2 ∧
          ∃ e2, se2.back? = some e2.b ∧ e2 ∈ es2 ∧ (∀ f ∈ es2, f.b = e2.b → f = e2) ∧ ∃ x : X, e2.v = enc x ∧ body e2 x w2) ∧
      ((∀ e ∈ es, e.b < si → e.b ∈ se) → ∀ w1, (w1 = w ∨ w1 = w.drew) → done w1)
theorem iter_step {X : Type} {enc : X → Value} {it r clock : Nat} {es : List En} {seen : Array Nat} {R : HP} {w : World} {nil : World → Prop} {body : En → X → World → Prop} {done : World → Prop}
    (h : Sat (iterP it r clock seen * R) w) (hm : ∀ w', Sat R w' → mapAt w' r .i64 es clock) (ok : MapOk es clock) (henc : ∀ e ∈ es, ∃ x, e.v = enc x)
    (yes : ∀ e ∈ es, e.b ∉ seen → ∀ x, e.v = enc x → ∀ w', Sat (iterP it r clock (seen.push e.b) * R) w' → body e x w')
    (no : (∀ e ∈ es, e.b ∈ seen) → ∀ w', Sat (iterP it r clock seen * R) w' → done w') : iterR enc ⟨it, 0, none⟩ w nil body done := by
  refine ⟨rfl, some r, clock, seen, clock, h.get, es, clock, hm w h.right, ?_, fun e he hs w1 hw1 => ?_, fun hall w1 hw1 => ?_⟩
  · cases es with
    | nil => exact .inr (.inl rfl)
    | cons e l => exact .inr (.inr ⟨e, by simp, ok.2.2 e (by simp)⟩)
  · have h1 : Sat (iterP it r clock seen * R) w1 := by
      rcases hw1 with e | e
      · exact e ▸ h
      · exact e ▸ h.drew
    have h2 := Sat.setObj h1 (.mapIter (some r) clock (seen.push e.b) clock)
    obtain ⟨x, hx⟩ := henc e he
    refine ⟨rfl, r, clock, seen.push e.b, clock, h2.get, es, hm _ h2.right, e, by simp, he, fun f hf hb => ?_, x, hx, yes e he hs x hx _ h2⟩
    have hn := ok.2.1
    clear h h1 h2 hm yes no henc hw1 hx
    induction es with
    | nil => simp at hf
    | cons g q ih =>
      simp only [List.map_cons, List.nodup_cons] at hn
      rcases List.mem_cons.1 hf with h1 | h1 <;> rcases List.mem_cons.1 he with h2 | h2
      · rw [h1, h2]
      · subst h1; exact absurd (hb ▸ List.mem_map_of_mem (f := En.b) h2) hn.1
      · subst h2; exact absurd (hb.symm ▸ List.mem_map_of_mem (f := En.b) h1) hn.1
      · exact ih ⟨(List.nodup_cons.1 ok.1).2, hn.2, fun e he => ok.2.2 e (by simp [he])⟩ h2 h1 hn.2
  · refine no (fun e he => hall e he (ok.2.2 e he)) w1 ?_
    rcases hw1 with e | e
    · exact e ▸ h
    · exact e ▸ h.drew
end Go.Sl
/- What the document's words are, as plain data; what it is that memory reads as them. -/
namespace Go.Mo
open Go Go.Vc Go.Sl
structure Put where
  lba : Int
  data : List UInt8
structure Ext where
  first : Int
  len : Int
deriving DecidableEq, Inhabited
structure Tx where
  time : Int
  puts : List Put
def may (e : Ext) : Bool := 0 ≤ e.first && e.first ≤ 1048576 && 1 ≤ e.len && e.len ≤ 1048576 && e.first + e.len ≤ 1048577
def meet (a b : Ext) : Bool := a.first < b.first + b.len && b.first < a.first + a.len
/-! ### Reading -/
def bytesV (l : List UInt8) : List Value := l.map fun b => .int .u8 b.toNat
def bytesOn (h : Heap) (s : SV) (l : List UInt8) : Prop := s.n = l.length ∧ rowOn h s (bytesV l)
def putsOn (h : Heap) (s : SV) (l : List Put) : Prop := s.n = l.length ∧ ∀ i (hi : i < l.length), ∃ ad d, s.a = some ad ∧ cellH h (ad.add (i * 2)) = some (.int .i64 l[i].lba) ∧ cellH h ((ad.add (i * 2)).add 1) = some (.slice d.a d.n d.c) ∧ bytesOn h d l[i].data
def extsOn (h : Heap) (s : SV) (l : List Ext) : Prop := s.n = l.length ∧ ∀ i (hi : i < l.length), ∃ ad, s.a = some ad ∧ cellH h (ad.add (i * 2)) = some (.int .i64 l[i].first) ∧ cellH h ((ad.add (i * 2)).add 1) = some (.int .i64 l[i].len)
def txsOn (h : Heap) (s : SV) (l : List Tx) : Prop := s.n = l.length ∧ ∀ i (hi : i < l.length), ∃ ad d, s.a = some ad ∧ cellH h (ad.add (i * 2)) = some (.int .i64 l[i].time) ∧ cellH h ((ad.add (i * 2)).add 1) = some (.slice d.a d.n d.c) ∧ putsOn h d l[i].puts
theorem bytesOn_le {h g : Heap} (hg : le h g) {s : SV} {l : List UInt8} (hl : bytesOn h s l) : bytesOn g s l := ⟨hl.1, rowOn_le hg hl.2⟩
theorem putsOn_le {h g : Heap} (hg : le h g) {s : SV} {l : List Put} (hl : putsOn h s l) : putsOn g s l :=
  ⟨hl.1, fun i hi => let ⟨ad, d, h1, h2, h3, h4⟩ := hl.2 i hi; ⟨ad, d, h1, cellH_le hg h2, cellH_le hg h3, bytesOn_le hg h4⟩⟩
theorem extsOn_le {h g : Heap} (hg : le h g) {s : SV} {l : List Ext} (hl : extsOn h s l) : extsOn g s l :=
  ⟨hl.1, fun i hi => let ⟨ad, h1, h2, h3⟩ := hl.2 i hi; ⟨ad, h1, cellH_le hg h2, cellH_le hg h3⟩⟩
theorem txsOn_le {h g : Heap} (hg : le h g) {s : SV} {l : List Tx} (hl : txsOn h s l) : txsOn g s l :=
  ⟨hl.1, fun i hi => let ⟨ad, d, h1, h2, h3, h4⟩ := hl.2 i hi; ⟨ad, d, h1, cellH_le hg h2, cellH_le hg h3, putsOn_le hg h4⟩⟩
theorem keep_le {w w' : World} (h : Keep w w') : le (hp w) (hp w') := fun b o hb => by
  have : b < w.heap.size := by rw [hp, Array.getElem?_eq_some_iff] at hb; exact hb.1
  rw [hp, h b this]; exact hb
theorem keep_cell {w w' : World} (h : Keep w w') {a : Addr} {v : Value} (e : w.cell? a = some v) : w'.cell? a = some v := cellH_le (keep_le h) e
theorem keep_heap {w w' : World} (h : Keep w w') {b : Nat} {o : Obj} (e : w.heap[b]? = some o) : w'.heap[b]? = some o := keep_le h b o e
theorem bytesOn_get {h : Heap} {s : SV} {l : List UInt8} (hl : bytesOn h s l) {i : Nat} (hi : i < l.length) : ∃ ad, s.a = some ad ∧ cellH h (ad.add i) = some (.int .u8 l[i].toNat) := by
  cases ha : s.a with
  | none => have := hl.2.1 ha; simp [bytesV] at this; subst this; simp at hi
  | some ad => exact ⟨ad, rfl, by have := hl.2.2 ad ha i (by simpa [bytesV] using hi); simpa [bytesV] using this⟩
/-- a loop, its invariant and its measure. -/
theorem loop_i {α : Type} {x₀ : α} {w : World} {body : α → World → (α → World → Prop) → Prop} (I : α → World → Prop) (μ : α → World → Nat) (h0 : I x₀ w)
    (hs : ∀ x w, I x w → body x w fun x' w' => I x' w' ∧ μ x' w' < μ x w) : loopR x₀ w body := ⟨I, μ, h0, hs⟩
theorem wrap_of {x : Int} (h : -2 ^ 62 ≤ x) (h' : x ≤ 2 ^ 62) : IntKind.i64.wrap x = x := wrap_i64 (by omega) (by omega)
theorem onP_i {a : Option Addr} {ad : Addr} {k : Addr → Prop} (h : a = some ad) (hk : k ad) : onP a k := by subst h; exact hk
end Go.Mo
/- Lists and maps of slices that a function owns. -/
namespace Go.Mo
open Go Go.Vc Go.Sl
def slv (s : SV) : Value := .slice s.a s.n s.c
def byteRow (s : SV) (l : List UInt8) : HP := ownS 1 s (bytesV l)
theorem byteRow_on {s : SV} {l : List UInt8} {w : World} (h : Sat (byteRow s l) w) : bytesOn (hp w) s l := by
  have h1 : Sat (ownS 1 s (bytesV l) * 1) w := h.eq (mul_one' _).symm
  refine ⟨by have := ownS_length h1; simp [bytesV] at this; omega, ?_⟩
  obtain ⟨g, hg, ha⟩ := h
  exact rowOn_le hg (ownS_on ha)
theorem all_mem {α : Type} {l : List α} {A : α → HP} {w : World} {x : α} (hx : x ∈ l) (h : Sat (all l A) w) : Sat (A x) w := by
  induction l with
  | nil => simp at hx
  | cons y r ih =>
    rcases List.mem_cons.1 hx with e | e
    · subst e; exact h.left
    · exact ih e h.right
/-! ### Rows of pairs -/
theorem flat2_length {α : Type} (f g : α → Value) (xs : List α) : (xs.flatMap fun x => [f x, g x]).length = xs.length * 2 := by
  induction xs with
  | nil => rfl
  | cons x r ih => simp only [List.flatMap_cons, List.length_append, ih, List.length_cons, List.length_nil]; omega
theorem flat2_get {α : Type} (f g : α → Value) : ∀ (xs : List α) (i : Nat) (hi : i < xs.length), (xs.flatMap fun x => [f x, g x])[i * 2]? = some (f xs[i]) ∧ (xs.flatMap fun x => [f x, g x])[i * 2 + 1]? = some (g xs[i])
  | [], i, hi => by simp at hi
  | x :: r, 0, hi => by simp
  | x :: r, i + 1, hi => by
    have := flat2_get f g r i (by simpa using hi)
    simp only [List.flatMap_cons]
    rw [show (i + 1) * 2 = i * 2 + 2 from by omega]
    exact this
theorem flat2_one {α : Type} (f g : α → Value) (xs : List α) (hf : ∀ x, one (f x) = true) (hg : ∀ x, one (g x) = true) : (xs.flatMap fun x => [f x, g x]).all one = true := by
  induction xs with
  | nil => rfl
  | cons x r ih => simp [List.flatMap_cons, hf, hg]
/-- A row of pairs of a number and a slice, each slice's own part with it. -/
def pairsA {β : Type} (num : β → Int) (A : SV → β → HP) (s : SV) (l : List β) : HP :=
  ex fun xs : List (SV × β) => lift (xs.map Prod.snd = l) * (ownS 2 s (xs.flatMap fun x => [.int .i64 (num x.2), slv x.1]) * all xs fun x => A x.1 x.2)
section
variable {β : Type} {num : β → Int} {A : SV → β → HP}
theorem pairsA_open {s : SV} {l : List β} {R : HP} {w : World} (h : Sat (pairsA num A s l * R) w) : ∃ xs : List (SV × β), xs.map Prod.snd = l ∧ Sat (ownS 2 s (xs.flatMap fun x => [.int .i64 (num x.2), slv x.1]) * (all xs (fun x => A x.1 x.2) * R)) w := by
  simp only [pairsA, ex_mul, mul_assoc', sat_ex, sat_lift] at h
  exact h
theorem pairsA_close {s : SV} {xs : List (SV × β)} {R : HP} {w : World} (h : Sat (ownS 2 s (xs.flatMap fun x => [.int .i64 (num x.2), slv x.1]) * (all xs (fun x => A x.1 x.2) * R)) w) : Sat (pairsA num A s (xs.map Prod.snd) * R) w := by
  simp only [pairsA, ex_mul, mul_assoc', sat_ex, sat_lift]
  exact ⟨xs, rfl, h⟩
theorem pairsA_nil {s : SV} {R : HP} {w : World} (h : Sat R w) (hc : s.c = 0) (hn : s.n = 0) : Sat (pairsA num A s [] * R) w :=
  pairsA_close (xs := []) (ownS_nil (by simpa [all] using h) hc hn)
theorem pairsA_n {s : SV} {l : List β} {R : HP} {w : World} (h0 : Sat (pairsA num A s l * R) w) : s.n = l.length := by
  obtain ⟨xs, rfl, h⟩ := pairsA_open h0
  have := ownS_length h
  rw [flat2_length] at this
  simp; omega
/-- The i-th pair. -/
theorem pairsA_get {s : SV} {l : List β} {R : HP} {w : World} (h0 : Sat (pairsA num A s l * R) w) {i : Nat} (hi : i < l.length) : ∃ b d, s.a = some ⟨b, 0, none⟩ ∧ w.cell? ⟨b, i * 2, none⟩ = some (.int .i64 (num l[i])) ∧ w.cell? ⟨b, i * 2 + 1, none⟩ = some (slv d) ∧ Sat (A d l[i]) w := by
  obtain ⟨xs, rfl, h⟩ := pairsA_open h0
  have hi' : i < xs.length := by simpa using hi
  have hl := flat2_length (fun x : SV × β => .int .i64 (num x.2)) (fun x => slv x.1) xs
  obtain ⟨g1, g2⟩ := flat2_get (fun x : SV × β => .int .i64 (num x.2)) (fun x => slv x.1) xs i hi'
  obtain ⟨b, hb, hc⟩ := ownS_cell h (i := i * 2) (by rw [hl]; omega)
  refine ⟨b, xs[i].1, hb, ?_, ?_, ?_⟩
  · rw [hc (i * 2) (by rw [hl]; omega), ← List.getElem?_eq_getElem, g1]; simp
  · rw [hc (i * 2 + 1) (by rw [hl]; omega), ← List.getElem?_eq_getElem, g2]
  · have := all_mem (List.getElem_mem hi') h.right.left
    simpa using this
/-- One more. -/
theorem pairsA_push {s : SV} {l : List β} {d : SV} {x : β} {bytes e b : Nat} {z : List Value} {R : HP} {w : World} {K : SV → World → Prop} (h0 : Sat (pairsA num A s l * (A d x * R)) w)
    (hc : w.cell? ⟨b, 0, none⟩ = some (.int .i64 (num x)) ∧ w.cell? ⟨b, 1, none⟩ = some (slv d)) (hcap : (l.length + 1) * bytes ≤ 2 ^ 44) (hby : 0 < bytes ∧ bytes ≤ 2 ^ 20) (hz : z.length = 2)
    (hk : ∀ s' w', Sat (pairsA num A s' (l ++ [x]) * R) w' → K s' w') : appendR s ⟨some ⟨b, 0, none⟩, 1, 1⟩ 2 bytes z e w K := by
  have hn := pairsA_n h0
  obtain ⟨xs, rfl, h⟩ := pairsA_open h0
  refine append_own (news := [.int .i64 (num x), slv d]) h rfl rfl (fun ad had => ?_) (fun hno => by cases hno) (by rw [hn]; exact hcap) hby hz fun s' w' hs' hw' => ?_
  · cases had
    exact ⟨hc.1, hc.2⟩
  · refine hk s' w' ?_
    have e : xs.map Prod.snd ++ [x] = (xs ++ [(d, x)]).map Prod.snd := by simp
    rw [e]
    refine pairsA_close ?_
    rw [all_append]
    simp only [List.flatMap_append, List.flatMap_cons, List.flatMap_nil, List.append_nil, all, mul_one']
    exact hw'.eq (by ac_rfl)
end
def putsA : SV → List Put → HP := pairsA Put.lba fun s x => byteRow s x.data
def txsA : SV → List Tx → HP := pairsA Tx.time fun s x => putsA s x.puts
theorem putsA_on {s : SV} {l : List Put} {w : World} (h : Sat (putsA s l) w) : putsOn (hp w) s l := by
  have h1 : Sat (putsA s l * 1) w := h.eq (mul_one' _).symm
  refine ⟨pairsA_n h1, fun i hi => ?_⟩
  obtain ⟨b, d, hb, h2, h3, h4⟩ := pairsA_get h1 hi
  exact ⟨⟨b, 0, none⟩, d, hb, by rw [add_mk, Nat.zero_add]; exact h2, by rw [add_mk, add_mk, Nat.zero_add]; exact h3, byteRow_on h4⟩
theorem txsA_on {s : SV} {l : List Tx} {w : World} (h : Sat (txsA s l) w) : txsOn (hp w) s l := by
  have h1 : Sat (txsA s l * 1) w := h.eq (mul_one' _).symm
  refine ⟨pairsA_n h1, fun i hi => ?_⟩
  obtain ⟨b, d, hb, h2, h3, h4⟩ := pairsA_get h1 hi
  exact ⟨⟨b, 0, none⟩, d, hb, by rw [add_mk, Nat.zero_add]; exact h2, by rw [add_mk, add_mk, Nat.zero_add]; exact h3, putsA_on h4⟩

/-! ### Maps of slices -/
section
variable {α : Type}
theorem all_take {xs : List (Int × α)} {k : Int} {v : α} {A : Int × α → HP} (h : lkp xs k = some v) : all xs A = A (k, v) * all (del xs k) A := by
  induction xs with
  | nil => cases h
  | cons p r ih =>
    obtain ⟨i, x⟩ := p
    simp only [lkp] at h
    simp only [del]
    by_cases e : k = i
    · rw [if_pos e] at h ⊢
      cases h; subst e; rfl
    · rw [if_neg e] at h ⊢
      simp only [all, ih h]; ac_rfl
theorem all_put {xs : List (Int × α)} {k : Int} {v : α} {A : Int × α → HP} : all (put xs k v) A = A (k, v) * all (del xs k) A := by
  induction xs with
  | nil => simp [put, del, all]
  | cons p r ih =>
    obtain ⟨i, x⟩ := p
    simp only [put, del]
    by_cases e : k = i
    · rw [if_pos e, if_pos e]; subst e; rfl
    · rw [if_neg e, if_neg e]
      simp only [all, ih]; ac_rfl
theorem del_none {xs : List (Int × α)} {k : Int} (h : lkp xs k = none) : del xs k = xs := by
  induction xs with
  | nil => rfl
  | cons p r ih =>
    simp only [lkp] at h
    simp only [del]
    by_cases e : k = p.1
    · rw [if_pos e] at h; cases h
    · rw [if_neg e] at h ⊢; rw [ih h]
theorem Sat.all_del {xs : List (Int × α)} {A : Int × α → HP} {R : HP} {w : World} (h : Sat (all xs A * R) w) (k : Int) : Sat (all (del xs k) A * R) w := by
  cases e : lkp xs k with
  | none => rw [del_none e]; exact h
  | some v => rw [all_take e, mul_assoc'] at h; exact h.right
end
/-- A map whose values are slices, each with what it owns. -/
def slmapA {β : Type} (A : SV → β → HP) (r : Nat) (l : List (Int × β)) : HP :=
  ex fun xs : List (Int × (SV × β)) => lift (on2 Prod.snd xs = l) * (mapA r (on2 (fun x => slv x.1) xs) * all xs fun x => A x.2.1 x.2.2)
section
variable {β : Type} {A : SV → β → HP}
theorem slmapA_open {r : Nat} {l : List (Int × β)} {R : HP} {w : World} (h : Sat (slmapA A r l * R) w) : ∃ xs : List (Int × (SV × β)), on2 Prod.snd xs = l ∧ Sat (mapA r (on2 (fun x => slv x.1) xs) * (all xs (fun x => A x.2.1 x.2.2) * R)) w := by
  simp only [slmapA, ex_mul, mul_assoc', sat_ex, sat_lift] at h
  exact h
theorem slmapA_close {r : Nat} {xs : List (Int × (SV × β))} {R : HP} {w : World} (h : Sat (mapA r (on2 (fun x => slv x.1) xs) * (all xs (fun x => A x.2.1 x.2.2) * R)) w) : Sat (slmapA A r (on2 Prod.snd xs) * R) w := by
  simp only [slmapA, ex_mul, mul_assoc', sat_ex, sat_lift]
  exact ⟨xs, rfl, h⟩
theorem slmapA_new {R : HP} {w : World} (h : Sat R w) : Sat (slmapA A w.heap.size [] * R) (w.alloc (.map #[] 0)) :=
  slmapA_close (xs := []) ((mapA_new h).eq (by simp [on2, all]))
theorem keys_on2 {γ : Type} (f : β → γ) (l : List (Int × β)) : (on2 f l).map Prod.fst = l.map Prod.fst := by simp [on2, Function.comp_def]
theorem slmapA_nodup {r : Nat} {l : List (Int × β)} {R : HP} {w : World} (h0 : Sat (slmapA A r l * R) w) : (l.map Prod.fst).Nodup := by
  obtain ⟨xs, rfl, h⟩ := slmapA_open h0
  have := mapA_nodup h
  rw [keys_on2] at this ⊢
  exact this
/-- What a lkp-up finds. -/
theorem slmapA_get {r : Nat} {l : List (Int × β)} {R : HP} {w : World} (h0 : Sat (slmapA A r l * R) w) : ∃ es, (∃ cl, mapAt w r .i64 es cl) ∧ es.length = l.length ∧
    ∀ k, (lkp l k = none ∧ findE es k = none) ∨ ∃ s b, lkp l k = some b ∧ findE es k = some (slv s) ∧ Sat (A s b) w := by
  obtain ⟨xs, rfl, h⟩ := slmapA_open h0
  obtain ⟨es, hcl, hf, hlen⟩ := mapA_get h
  refine ⟨es, hcl, by simpa [length_on2] using hlen, fun k => ?_⟩
  rw [hf k, lkp_on2, lkp_on2]
  cases e : lkp xs k with
  | none => exact .inl ⟨rfl, rfl⟩
  | some v => exact .inr ⟨v.1, v.2, rfl, rfl, all_mem (A := fun x : Int × (SV × β) => A x.2.1 x.2.2) (lkp_mem e) h.right.left⟩
/-- One is put in, whatever was there. -/
theorem slmapA_put {r : Nat} {l : List (Int × β)} {R : HP} {w : World} {s : SV} {b : β} (k : Int) (h0 : Sat (slmapA A r l * (A s b * R)) w) : ∃ es cl, mapAt w r .i64 es cl ∧ Sat (slmapA A r (put l k b) * R) (World.setObj w r (.map (entries .i64 (putM es cl k (slv s))) (putClock es cl k))) := by
  obtain ⟨xs, rfl, h⟩ := slmapA_open h0
  have h1 : Sat (mapA r (on2 (fun x => slv x.1) xs) * (A s b * (all (del xs k) (fun x => A x.2.1 x.2.2) * R))) w := by
    have h0 : Sat (all xs (fun x => A x.2.1 x.2.2) * (mapA r (on2 (fun x => slv x.1) xs) * (A s b * R))) w := h.eq (by ac_rfl)
    exact (Sat.all_del h0 k).eq (by ac_rfl)
  obtain ⟨es', cl', hm', _, h2⟩ := mapA_put h1 k (slv s)
  refine ⟨es', cl', hm', ?_⟩
  rw [put_on2 Prod.snd xs k (s, b)]
  refine slmapA_close ?_
  rw [all_put]
  refine h2.eq ?_
  rw [put_on2 (fun x : SV × β => slv x.1) xs k (s, b)]
  ac_rfl
/-- The map laid open at one key: what stands there (or an empty slice), and how another is put there. -/
theorem slmapA_hole {r : Nat} {l : List (Int × β)} {d0 : β} {R : HP} {w : World} (hnil : ∀ (R : HP) (w : World), Sat R w → Sat (A ⟨none, 0, 0⟩ d0 * R) w) (h : Sat (slmapA A r l * R) w) (k : Int) :
    ∃ es clock H sv, (findE es k).getD (.slice none 0 0) = slv sv ∧ Sat (mapE r es clock * (A sv ((lkp l k).getD d0) * (H * R))) w ∧
      ∀ R' w' s' b', Sat (mapE r es clock * (A s' b' * (H * R'))) w' → mapAt w' r .i64 es clock ∧ Sat (slmapA A r (put l k b') * R') (World.setObj w' r (.map (entries .i64 (putM es clock k (slv s'))) (putClock es clock k))) := by
  obtain ⟨xs, rfl, h1⟩ := slmapA_open h
  obtain ⟨es, clock, ok, hkv, h2⟩ := mapA_open h1
  have hput : ∀ R' w' s' b', Sat (mapE r es clock * (A s' b' * ((all (del xs k) fun x => A x.2.1 x.2.2) * R'))) w' → mapAt w' r .i64 es clock ∧ Sat (slmapA A r (put (on2 Prod.snd xs) k b') * R') (World.setObj w' r (.map (entries .i64 (putM es clock k (slv s'))) (putClock es clock k))) := by
    intro R' w' s' b' h'
    refine ⟨mapE_at h', ?_⟩
    rw [put_on2 Prod.snd xs k (s', b')]
    refine slmapA_close ?_
    rw [all_put]
    have h3 := mapA_close (Sat.setObj h' (.map (entries .i64 (putM es clock k (slv s'))) (putClock es clock k))) (ok.put k (slv s'))
    rw [kvs_put, hkv, put_on2 (fun x : SV × β => slv x.1) xs k (s', b')] at h3
    exact h3.eq (by ac_rfl)
  have hf : findE es k = (lkp xs k).map fun x => slv x.1 := by rw [findE_kvs, hkv, lkp_on2]
  cases e : lkp xs k with
  | none =>
    refine ⟨es, clock, _, ⟨none, 0, 0⟩, by rw [hf, e]; rfl, ?_, hput⟩
    rw [lkp_on2, e, del_none e]
    exact (hnil _ _ h2).eq (by simp only [Option.map_none, Option.getD_none]; ac_rfl)
  | some v =>
    refine ⟨es, clock, _, v.1, by rw [hf, e]; rfl, ?_, hput⟩
    rw [all_take e] at h2
    rw [lkp_on2, e]
    exact h2.eq (by simp only [Option.map_some, Option.getD_some]; ac_rfl)
end
end Go.Mo
/- The rules of the write buffer and of the book of times, as plain functions; what they are in memory. -/
namespace Go.Mo
open Go Go.Vc Go.Sl
structure Buf where
  blocks : Int
  most : Int
  data : List (Int × List UInt8)
def bufA (p : Option Addr) (B : Buf) : HP := ex fun r : Nat => objA p [.int .i64 B.blocks, .int .i64 B.most, .map (some r)] * slmapA byteRow r B.data
theorem bufA_open {p : Option Addr} {B : Buf} {R : HP} {w : World} (h : Sat (bufA p B * R) w) : ∃ r, Sat (objA p [.int .i64 B.blocks, .int .i64 B.most, .map (some r)] * (slmapA byteRow r B.data * R)) w := by
  simp only [bufA, ex_mul, mul_assoc', sat_ex] at h
  exact h
theorem bufA_close {p : Option Addr} {B : Buf} {r : Nat} {R : HP} {w : World} (h : Sat (objA p [.int .i64 B.blocks, .int .i64 B.most, .map (some r)] * (slmapA byteRow r B.data * R)) w) : Sat (bufA p B * R) w := by
  simp only [bufA, ex_mul, mul_assoc', sat_ex]
  exact ⟨r, h⟩
def sortI (l : List Int) : List Int := l.mergeSort fun x y => decide (x ≤ y)
theorem sortI_perm (l : List Int) : (sortI l).Perm l := List.mergeSort_perm _ _
theorem sortI_length (l : List Int) : (sortI l).length = l.length := (sortI_perm l).length_eq
def Buf.puts (B : Buf) : List Put := (sortI (B.data.map Prod.fst)).map fun k => ⟨k, (lkp B.data k).getD []⟩
def outOf (n : Int) (x : Put) : Bool := decide (x.lba < 0) || decide (n ≤ x.lba)
def badLen (x : Put) : Bool := !decide (x.data.length = 40)
/-- Do the blocks' numbers rise? -/
def riseM (l : List Put) : Bool := decide (0 < l.length ∧ (l.map Put.lba).Pairwise (· < ·))
def twiceM (l : List Put) : Bool := !decide ((l.map Put.lba).Nodup)
def newOnes (d : List (Int × List UInt8)) (l : List Put) : Nat := (l.filter fun p => (lkp d p.lba).isNone).length
def putsIn (d : List (Int × List UInt8)) (l : List Put) : List (Int × List UInt8) := l.foldl (fun d p => put d p.lba p.data) d
def Buf.write (B : Buf) (l : List Put) : Buf × Int :=
  if l.length = 0 then (B, 1) else if l.any (outOf B.blocks) then (B, 2) else if l.any badLen then (B, 3) else if twiceM l then (B, 4)
  else if B.most < ((B.data.length + newOnes B.data l : Nat) : Int) then (B, 7) else ({ B with data := putsIn B.data l }, 0)
structure Book where
  most : Int
  last : Int
  times : List (Int × Int)
def intv (n : Int) : Value := .int .i64 n
def bookA (p : Option Addr) (B : Book) : HP := ex fun r : Nat => objA p [.int .i64 B.most, .int .i64 B.last, .map (some r)] * mapA r (on2 intv B.times)
theorem bookA_open {p : Option Addr} {B : Book} {R : HP} {w : World} (h : Sat (bookA p B * R) w) : ∃ r, Sat (objA p [.int .i64 B.most, .int .i64 B.last, .map (some r)] * (mapA r (on2 intv B.times) * R)) w := by
  simp only [bookA, ex_mul, mul_assoc', sat_ex] at h
  exact h
theorem bookA_close {p : Option Addr} {B : Book} {r : Nat} {R : HP} {w : World} (h : Sat (objA p [.int .i64 B.most, .int .i64 B.last, .map (some r)] * (mapA r (on2 intv B.times) * R)) w) : Sat (bookA p B * R) w := by
  simp only [bookA, ex_mul, mul_assoc', sat_ex]
  exact ⟨r, h⟩
def Book.open (B : Book) (at_ : Int) : Book × (Int × Int) :=
  if at_ < 0 ∨ 1099511627776 < at_ then (B, (0, 1)) else if B.most ≤ (B.times.length : Int) then (B, (0, 6))
  else ({ B with last := B.last + 1, times := put B.times (B.last + 1) at_ }, (B.last + 1, 0))
def Book.close (B : Book) (h : Int) : Book × Int :=
  match lkp B.times h with
  | none => (B, 14)
  | some _ => ({ B with times := del B.times h }, 0)
end Go.Mo
/- Sets of extents: what the program's own code computes, as plain functions. -/
namespace Go.Mo
open Go Go.Vc Go.Sl
def encE (x : Ext) : List Value := [.int .i64 x.first, .int .i64 x.len]
def extsA (s : SV) (l : List Ext) : HP := ownS 2 s (l.flatMap encE)
def cmpE (x y : Ext) : Int := if x.first < y.first then -1 else if y.first < x.first then 1 else 0
theorem ltE (x y : Ext) : Proofs.ltOf cmpE x y = decide (x.first < y.first) := by
  unfold Proofs.ltOf cmpE
  by_cases h1 : x.first < y.first
  · simp [h1]
  · by_cases h2 : y.first < x.first <;> simp [h1, h2]
theorem swoE : Sort.SWO (Proofs.ltOf cmpE) where
  irrefl x := by rw [ltE]; simp
  trans x y z h1 h2 := by rw [ltE] at *; simp at *; omega
  ntrans x y z h1 h2 := by rw [ltE] at *; simp at *; omega
/-- The library's sort. -/
def sortE (l : List Ext) : List Ext := (Sort.pdq (Proofs.ltOf cmpE) l.toArray 0 l.length (Lib.bitLen l.length) true true).toList
theorem sortE_spec (l : List Ext) : (sortE l).Perm l ∧ (sortE l).Pairwise fun x y => x.first ≤ y.first := by
  obtain ⟨⟨h1, h2, h3⟩, h4⟩ := Sort.pdq_sorts (Proofs.ltOf cmpE) swoE l.toArray 0 l.length (Lib.bitLen l.length) true true (Nat.zero_le _) (by simp) (Or.inl rfl)
  unfold sortE
  generalize Sort.pdq (Proofs.ltOf cmpE) l.toArray 0 l.length (Lib.bitLen l.length) true true = d at h1 h2 h3 h4
  have hs : d.size = l.length := by simpa using h1
  refine ⟨?_, ?_⟩
  · have e1 : d.extract 0 l.length = d := by rw [← hs]; simp
    have e2 : l.toArray.extract 0 l.length = l.toArray := by simp
    rw [e1, e2] at h3
    simpa using h3
  · rw [List.pairwise_iff_getElem]
    intro i j hi hj hij
    have := h4 i j (Nat.zero_le _) hij (by simpa [hs] using hj)
    rw [ltE] at this
    simp only [Array.length_toList] at hi hj
    simp only [Array.getElem_toList]
    rw [getElem!_pos d i hi, getElem!_pos d j hj] at this
    simpa using this
theorem sortE_length (l : List Ext) : (sortE l).length = l.length := (sortE_spec l).1.length_eq
/-- One more extent, behind those so far (the last of them first). -/
def joinE : List Ext → Ext → List Ext
  | [], e => [e]
  | x :: r, e => if e.first ≤ x.first + x.len then ⟨x.first, max x.len (e.first + e.len - x.first)⟩ :: r else e :: x :: r
def joinM (l : List Ext) : List Ext := ((sortE l).foldl joinE []).reverse
structure XSet where
  most : Int
  l : List Ext
def setA (p : Option Addr) (S : XSet) : HP := ex fun s : SV => objA p [.int .i64 S.most, slv s] * extsA s S.l
theorem setA_open {p : Option Addr} {S : XSet} {R : HP} {w : World} (h : Sat (setA p S * R) w) : ∃ s, Sat (objA p [.int .i64 S.most, slv s] * (extsA s S.l * R)) w := by
  simp only [setA, ex_mul, mul_assoc', sat_ex] at h
  exact h
theorem setA_close {p : Option Addr} {S : XSet} {s : SV} {R : HP} {w : World} (h : Sat (objA p [.int .i64 S.most, slv s] * (extsA s S.l * R)) w) : Sat (setA p S * R) w := by
  simp only [setA, ex_mul, mul_assoc', sat_ex]
  exact ⟨s, h⟩
def XSet.add (S : XSet) (l : List Ext) : XSet × Int :=
  if l.all may = false then (S, 1) else if l.length = 0 then (S, 0) else if S.most < ((joinM (S.l ++ l)).length : Int) then (S, 7) else ({ S with l := joinM (S.l ++ l) }, 0)
theorem encE_length (l : List Ext) : (l.flatMap encE).length = l.length * 2 := flat2_length (fun x : Ext => .int .i64 x.first) (fun x => .int .i64 x.len) l
theorem encE_one (l : List Ext) : (l.flatMap encE).all one = true := flat2_one (fun x : Ext => .int .i64 x.first) (fun x => .int .i64 x.len) l (fun _ => rfl) (fun _ => rfl)
theorem encE_get (l : List Ext) (i : Nat) (hi : i < l.length) : (l.flatMap encE)[i * 2]? = some (.int .i64 l[i].first) ∧ (l.flatMap encE)[i * 2 + 1]? = some (.int .i64 l[i].len) := flat2_get (fun x : Ext => .int .i64 x.first) (fun x => .int .i64 x.len) l i hi
theorem extsA_n {s : SV} {l : List Ext} {R : HP} {w : World} (h : Sat (extsA s l * R) w) : s.n = l.length := by
  have := ownS_length h
  rw [encE_length] at this; omega
theorem extsA_on {s : SV} {l : List Ext} {w : World} (h : Sat (extsA s l) w) : extsOn (hp w) s l := by
  have h1 : Sat (extsA s l * 1) w := h.eq (mul_one' _).symm
  refine ⟨extsA_n h1, fun i hi => ?_⟩
  obtain ⟨g1, g2⟩ := encE_get l i hi
  have hl := encE_length l
  obtain ⟨b, hb, hc⟩ := ownS_cell h1 (i := i * 2) (by rw [hl]; omega)
  refine ⟨⟨b, 0, none⟩, hb, ?_, ?_⟩
  · rw [add_mk, Nat.zero_add]
    have := hc (i * 2) (by rw [hl]; omega)
    rw [← List.getElem?_eq_getElem, g1] at this
    exact this
  · rw [add_mk, add_mk, Nat.zero_add]
    have := hc (i * 2 + 1) (by rw [hl]; omega)
    rw [← List.getElem?_eq_getElem, g2] at this
    exact this
/-- a row of extents as plain cells. -/
theorem extsOn_row {h : Heap} {s : SV} {l : List Ext} (hl : extsOn h s l) : rowOn h s (l.flatMap encE) := by
  refine ⟨fun hn => ?_, fun ad had j hj => ?_⟩
  · cases l with
    | nil => rfl
    | cons x r =>
      obtain ⟨ad, ha, _⟩ := hl.2 0 (by simp)
      rw [hn] at ha; cases ha
  · rw [encE_length] at hj
    have hi : j / 2 < l.length := by omega
    obtain ⟨ad', ha, h1, h2⟩ := hl.2 (j / 2) hi
    rw [had] at ha; cases ha
    obtain ⟨g1, g2⟩ := encE_get l (j / 2) hi
    rcases Nat.mod_two_eq_zero_or_one j with e | e
    · have ej : j = j / 2 * 2 := by omega
      have : (l.flatMap encE)[j]? = some (.int .i64 l[j / 2].first) := by rw [← g1]; congr 1
      rw [List.getElem?_eq_some_iff] at this
      rw [this.2, ← h1]; congr 2
    · have ej : j = j / 2 * 2 + 1 := by omega
      have : (l.flatMap encE)[j]? = some (.int .i64 l[j / 2].len) := by rw [← g2]; congr 1
      rw [List.getElem?_eq_some_iff] at this
      have hadd : (ad.add (j / 2 * 2)).add 1 = ad.add j := by
        unfold Addr.add
        by_cases h0 : j / 2 * 2 = 0
        · have : j = 1 := by omega
          subst this; rfl
        · have : j ≠ 0 := by omega
          simp [h0, this]; omega
      rw [this.2, ← h2, hadd]
end Go.Mo
/- The map of versions: its rules as plain functions; what it is in memory. -/
namespace Go.Mo
open Go Go.Vc Go.Sl
/-- Of each block its versions, each a time and its bytes. -/
structure XMap where
  blocks : Int
  vers : List (Int × List Put)
  last : Int
def xmapA (p : Option Addr) (M : XMap) : HP := ex fun r : Nat => objA p [.int .i64 M.blocks, .map (some r), .int .i64 M.last] * slmapA putsA r M.vers
theorem xmapA_open {p : Option Addr} {M : XMap} {R : HP} {w : World} (h : Sat (xmapA p M * R) w) : ∃ r, Sat (objA p [.int .i64 M.blocks, .map (some r), .int .i64 M.last] * (slmapA putsA r M.vers * R)) w := by
  simp only [xmapA, ex_mul, mul_assoc', sat_ex] at h
  exact h
theorem xmapA_close {p : Option Addr} {M : XMap} {r : Nat} {R : HP} {w : World} (h : Sat (objA p [.int .i64 M.blocks, .map (some r), .int .i64 M.last] * (slmapA putsA r M.vers * R)) w) : Sat (xmapA p M * R) w := by
  simp only [xmapA, ex_mul, mul_assoc', sat_ex]
  exact ⟨r, h⟩
def versOf (v : List (Int × List Put)) (k : Int) : List Put := (lkp v k).getD []
def addVer (t : Int) (v : List (Int × List Put)) (x : Put) : List (Int × List Put) := put v x.lba (versOf v x.lba ++ [⟨t, x.data⟩])
def inB (M : XMap) (lba : Int) : Bool := decide (0 ≤ lba ∧ lba < M.blocks)
def XMap.apply (M : XMap) (t : Tx) : XMap × Int :=
  if t.time ≤ M.last ∨ 1099511627776 < t.time then (M, 11) else if riseM t.puts = false then (M, 1)
  else if inB M (t.puts.headD ⟨0, []⟩).lba = false ∨ inB M (t.puts.getLastD ⟨0, []⟩).lba = false then (M, 2)
  else if t.puts.any badLen then (M, 3)
  else ({ M with vers := t.puts.foldl (addVer t.time) M.vers, last := t.time }, 0)
/-- So many versions of a block at most. -/
def XOk (B : Nat) (M : XMap) : Prop := (1 ≤ M.blocks ∧ M.blocks ≤ 1048576) ∧ M.vers.length ≤ B * 2 ^ 13 ∧ ∀ q ∈ M.vers, (0 ≤ q.1 ∧ q.1 < M.blocks) ∧ 0 < q.2.length ∧ q.2.length ≤ B ∧ ∀ x ∈ q.2, x.data.length = 40
theorem mem_put {α : Type} {l : List (Int × α)} {k : Int} {v : α} {q : Int × α} (h : q ∈ put l k v) : q = (k, v) ∨ q ∈ l := by
  induction l with
  | nil => simp [put] at h; exact .inl h
  | cons p r ih =>
    simp only [put] at h
    split at h
    · rename_i e
      rcases List.mem_cons.1 h with h | h
      · subst e; exact .inl h
      · exact .inr (by simp [h])
    · rcases List.mem_cons.1 h with h | h
      · exact .inr (by simp [h])
      · rcases ih h with h | h
        · exact .inl h
        · exact .inr (by simp [h])
theorem put_length {α : Type} (l : List (Int × α)) (k : Int) (v : α) : (put l k v).length = if (lkp l k).isSome then l.length else l.length + 1 := by
  induction l with
  | nil => rfl
  | cons p r ih =>
    simp only [put, lkp]
    split
    · rfl
    · simp only [List.length_cons, ih]; split <;> rfl
theorem put_length_le {α : Type} (l : List (Int × α)) (k : Int) (v : α) : (put l k v).length ≤ l.length + 1 := by
  rw [put_length]; split <;> omega
theorem apply_ok {B : Nat} {M : XMap} {t : Tx} (ok : XOk B M) (hn : t.puts.length ≤ 2 ^ 13) : XOk (B + 1) (M.apply t).1 := by
  have ok1 : XOk (B + 1) M := ⟨ok.1, Nat.le_trans ok.2.1 (Nat.mul_le_mul_right _ (Nat.le_succ B)), fun q hq => by obtain ⟨h1, h2, h3, h4⟩ := ok.2.2 q hq; exact ⟨h1, h2, by omega, h4⟩⟩
  unfold XMap.apply
  split
  · exact ok1
  · split
    · exact ok1
    · rename_i hr
      split
      · exact ok1
      · rename_i hin
        split
        · exact ok1
        · rename_i hbad
          have hr' : riseM t.puts = true := by simpa using hr
          unfold riseM at hr'
          simp only [decide_eq_true_eq] at hr'
          obtain ⟨hpos, hpw⟩ := hr'
          have hpw' := List.pairwise_iff_getElem.1 hpw
          have hhead : t.puts.headD ⟨0, []⟩ = t.puts[0] := by rw [List.headD_eq_head?_getD, List.head?_eq_getElem?, List.getElem?_eq_getElem hpos]; rfl
          have hlast : t.puts.getLastD ⟨0, []⟩ = t.puts[t.puts.length - 1] := by rw [List.getLastD_eq_getLast?, List.getLast?_eq_getElem?, List.getElem?_eq_getElem (by omega)]; rfl
          rw [hhead, hlast] at hin
          have h0 : 0 ≤ t.puts[0].lba ∧ t.puts[0].lba < M.blocks := by
            have : inB M t.puts[0].lba = true := by
              cases e : inB M t.puts[0].lba
              · exact absurd (.inl e) hin
              · rfl
            simpa [inB] using this
          have h1 : 0 ≤ t.puts[t.puts.length - 1].lba ∧ t.puts[t.puts.length - 1].lba < M.blocks := by
            have : inB M t.puts[t.puts.length - 1].lba = true := by
              cases e : inB M t.puts[t.puts.length - 1].lba
              · exact absurd (.inr e) hin
              · rfl
            simpa [inB] using this
          have hall : ∀ j (hj : j < t.puts.length), 0 ≤ t.puts[j].lba ∧ t.puts[j].lba < M.blocks := fun j hj => by
            have a : t.puts[0].lba ≤ t.puts[j].lba := by
              rcases Nat.eq_zero_or_pos j with e | e
              · subst e; exact Int.le_refl _
              · have := hpw' 0 j (by simpa using hpos) (by simpa using hj) e
                simp only [List.getElem_map] at this; omega
            have b : t.puts[j].lba ≤ t.puts[t.puts.length - 1].lba := by
              by_cases e : j = t.puts.length - 1
              · subst e; exact Int.le_refl _
              · have := hpw' j (t.puts.length - 1) (by simpa using hj) (by simp; omega) (by omega)
                simp only [List.getElem_map] at this; omega
            omega
          have h40 : ∀ x ∈ t.puts, x.data.length = 40 := fun x hx => by
            have := List.any_eq_false.1 (by simpa using hbad : t.puts.any badLen = false) x hx
            simpa [badLen] using this
          have key : ∀ i, i ≤ t.puts.length → ((t.puts.take i).foldl (addVer t.time) M.vers).length ≤ M.vers.length + i ∧ ∀ q ∈ (t.puts.take i).foldl (addVer t.time) M.vers, (0 ≤ q.1 ∧ q.1 < M.blocks) ∧ 0 < q.2.length ∧ (q.2.length ≤ B + (if q.1 ∈ (t.puts.take i).map Put.lba then 1 else 0)) ∧ ∀ x ∈ q.2, x.data.length = 40 := by
            intro i
            induction i with
            | zero => intro _; exact ⟨by simp, fun q hq => by obtain ⟨a, b, c, d⟩ := ok.2.2 q hq; exact ⟨a, b, by simpa using c, d⟩⟩
            | succ i ih =>
              intro hi
              obtain ⟨l1, l2⟩ := ih (by omega)
              have hsucc : t.puts.take (i + 1) = t.puts.take i ++ [t.puts[i]] := List.take_succ_eq_append_getElem (by omega)
              rw [hsucc, List.foldl_append]
              simp only [List.foldl_cons, List.foldl_nil]
              have hnew : t.puts[i].lba ∉ (t.puts.take i).map Put.lba := by
                intro h
                obtain ⟨x, hx, e⟩ := List.mem_map.1 h
                obtain ⟨j, hj, rfl⟩ := List.getElem_of_mem hx
                have hj' : j < i := by simp at hj; omega
                have := hpw' j i (by simp; omega) (by simp; omega) hj'
                simp only [List.getElem_map, List.getElem_take] at this e
                omega
              generalize (t.puts.take i).foldl (addVer t.time) M.vers = vs at l1 l2 ⊢
              refine ⟨?_, fun q hq => ?_⟩
              · have := put_length_le vs t.puts[i].lba (versOf vs t.puts[i].lba ++ [⟨t.time, t.puts[i].data⟩])
                unfold addVer; omega
              · rcases mem_put hq with e | e
                · subst e
                  refine ⟨hall i (by omega), by simp, ?_, fun x hx => ?_⟩
                  · simp only [List.map_append, List.map_cons, List.map_nil, List.mem_append, List.mem_singleton, or_true, ↓reduceIte, List.length_append, List.length_singleton]
                    unfold versOf
                    cases e : lkp vs t.puts[i].lba with
                    | none => simp
                    | some v =>
                      have := (l2 _ (lkp_mem e)).2.2.1
                      rw [if_neg hnew] at this
                      simp only [Option.getD_some]; simp only [Nat.add_zero] at this; omega
                  · rcases List.mem_append.1 hx with h | h
                    · unfold versOf at h
                      cases e : lkp vs t.puts[i].lba with
                      | none => rw [e] at h; simp at h
                      | some v => rw [e] at h; exact (l2 _ (lkp_mem e)).2.2.2 x h
                    · simp only [List.mem_singleton] at h; subst h
                      show t.puts[i].data.length = 40
                      exact h40 _ (List.getElem_mem (by omega))
                · obtain ⟨a, b, c, d⟩ := l2 q e
                  refine ⟨a, b, ?_, d⟩
                  refine Nat.le_trans c ?_
                  split
                  · rename_i h; rw [if_pos (by simp only [List.map_append, List.mem_append]; exact .inl h)]; exact Nat.le_refl _
                  · omega
          have hfin := key t.puts.length (Nat.le_refl _)
          rw [List.take_length] at hfin
          refine ⟨ok.1, by rw [Nat.succ_mul]; exact Nat.le_trans hfin.1 (Nat.add_le_add ok.2.1 hn), fun q hq => ?_⟩
          obtain ⟨a, b, c, d⟩ := hfin.2 q hq
          refine ⟨a, b, Nat.le_trans c ?_, d⟩
          split <;> omega
def lastT (l : List Put) : Int := (l.getLastD ⟨0, []⟩).lba
def hitV (e : Ext) (after : Int) (q : Int × List Put) : Bool := decide (e.first ≤ q.1) && decide (q.1 - e.first < e.len) && decide (after < lastT q.2)
def XMap.written (M : XMap) (e : Ext) (after : Int) : Bool := may e && M.vers.any (hitV e after)
/-- The map laid open for a range over it. -/
theorem slmapA_iter {β : Type} {A : SV → β → HP} {r : Nat} {l : List (Int × β)} {R : HP} {w : World} (h : Sat (slmapA A r l * R) w) : ∃ es clock, ∃ xs : List (Int × (SV × β)), MapOk es clock ∧ on2 Prod.snd xs = l ∧
    (∀ e ∈ es, ∃ s b, (e.k, (s, b)) ∈ xs ∧ e.v = slv s) ∧ (∀ q ∈ l, ∃ e ∈ es, ∃ s, e.k = q.1 ∧ (e.k, (s, q.2)) ∈ xs) ∧ (∀ k x y, (k, x) ∈ xs → (k, y) ∈ xs → x = y) ∧ Sat (mapE r es clock * (all xs (fun x => A x.2.1 x.2.2) * R)) w ∧
    (∀ R' w', Sat (mapE r es clock * (all xs (fun x => A x.2.1 x.2.2) * R')) w' → Sat (slmapA A r l * R') w') := by
  obtain ⟨xs, rfl, h1⟩ := slmapA_open h
  obtain ⟨es, clock, ok, hkv, h2⟩ := mapA_open h1
  have hnd : (xs.map Prod.fst).Nodup := by
    have := ok.nodup
    rw [hkv, keys_on2] at this
    exact this
  refine ⟨es, clock, xs, ok, rfl, fun e he => ?_, fun q hq => ?_, fun k x y hx hy => ?_, h2, fun R' w' h' => ?_⟩
  · have : (e.k, e.v) ∈ kvs es := List.mem_map.2 ⟨e, he, rfl⟩
    rw [hkv] at this
    obtain ⟨x, hx, e1⟩ := List.mem_map.1 this
    simp only [Prod.mk.injEq] at e1
    exact ⟨x.2.1, x.2.2, by rw [← e1.1]; exact hx, e1.2.symm⟩
  · obtain ⟨x, hx, rfl⟩ := List.mem_map.1 hq
    have : (x.1, slv x.2.1) ∈ kvs es := by rw [hkv]; exact List.mem_map.2 ⟨x, hx, rfl⟩
    obtain ⟨e, he, e1⟩ := List.mem_map.1 this
    simp only [Prod.mk.injEq] at e1
    exact ⟨e, he, x.2.1, e1.1, by rw [e1.1]; exact hx⟩
  · have a := lkp_of_mem hnd hx
    have b := lkp_of_mem hnd hy
    rw [a] at b; exact Option.some.inj b
  · refine slmapA_close ?_
    have := mapA_close h' ok
    rw [hkv] at this
    exact this
end Go.Mo
/- What conflicts: the rule as a plain function; the transactions' parts. -/
namespace Go.Mo
open Go Go.Vc Go.Sl
def XSet.has (S : XSet) (lba : Int) : Bool := may ⟨lba, 1⟩ && S.l.any fun x => meet x ⟨lba, 1⟩
def sumLen (l : List Ext) : Int := (l.map Ext.len).sum
def againstM (t : Tx) (S : XSet) : Bool := t.puts.any fun x => S.has x.lba
def hitX (M : XMap) (at_ : Int) (x : Ext) : Bool := M.written ⟨x.first, if 1048576 < x.len then 1048576 else x.len⟩ at_ || M.written ⟨x.first + x.len - 1, 1⟩ at_
def hitS (M : XMap) (q : List Tx) (at_ : Int) (S : XSet) : Bool := S.l.any (hitX M at_) || q.any fun t => againstM t S
def validM (M : XMap) (q : List Tx) (at_ : Int) (r s : XSet) : Int := if sumLen s.l = 0 then 0 else if hitS M q at_ r || hitS M q at_ s then 8 else 0
/-- How many make the next batch: puts so far, transactions so far. -/
def formL : List Tx → Int → Int → Int
  | [], _, n => n
  | t :: r, p, n => if 8 ≤ n ∨ (0 < n ∧ 32 - p < (t.puts.length : Nat)) then n else formL r (p + (t.puts.length : Nat)) (n + 1)
end Go.Mo
/- The manager of transactions: its rules as plain functions; what it is in memory. -/
namespace Go.Mo
open Go Go.Vc Go.Sl
structure Rd where
  lba : Int
  data : List UInt8
  own : Bool
def readsA (s : SV) (l : List Rd) : HP := ex fun xs : List (SV × Rd) => lift (xs.map Prod.snd = l) * (ownS 3 s (xs.flatMap fun x => [.int .i64 x.2.lba, slv x.1, .bool x.2.own]) * all xs fun x => byteRow x.1 x.2.data)
structure View where
  at_ : Int
  set : XSet
  reads : List Rd
def viewA (p m b : Option Addr) (V : View) : HP := ex fun sp : Option Addr => ex fun rs : SV => objA p [.pointer m, .pointer b, .int .i64 V.at_, .pointer sp, slv rs] * (setA sp V.set * readsA rs V.reads)
theorem viewA_open {p m b : Option Addr} {V : View} {R : HP} {w : World} (h : Sat (viewA p m b V * R) w) : ∃ sp rs, Sat (objA p [.pointer m, .pointer b, .int .i64 V.at_, .pointer sp, slv rs] * (setA sp V.set * (readsA rs V.reads * R))) w := by
  simp only [viewA, ex_mul, mul_assoc', sat_ex] at h
  exact h
theorem viewA_close {p m b sp : Option Addr} {rs : SV} {V : View} {R : HP} {w : World} (h : Sat (objA p [.pointer m, .pointer b, .int .i64 V.at_, .pointer sp, slv rs] * (setA sp V.set * (readsA rs V.reads * R))) w) : Sat (viewA p m b V * R) w := by
  simp only [viewA, ex_mul, mul_assoc', sat_ex]
  exact ⟨sp, rs, h⟩
structure Trn where
  state : Int
  time : Int
  code : Int
  at_ : Int
  buf : Buf
  view : View
def trO (p bp vp mp : Option Addr) (T : Trn) : HP := objA p [.int .i64 T.state, .int .i64 T.time, .int .i64 T.code, .int .i64 T.at_, .pointer bp, .pointer vp] * (bufA bp T.buf * viewA vp mp bp T.view)
def trA (mp p : Option Addr) (T : Trn) : HP := ex fun bp : Option Addr => ex fun vp : Option Addr => trO p bp vp mp T
theorem trA_open {mp p : Option Addr} {T : Trn} {R : HP} {w : World} (h : Sat (trA mp p T * R) w) : ∃ bp vp, Sat (objA p [.int .i64 T.state, .int .i64 T.time, .int .i64 T.code, .int .i64 T.at_, .pointer bp, .pointer vp] * (bufA bp T.buf * (viewA vp mp bp T.view * R))) w := by
  simp only [trA, trO, ex_mul, mul_assoc', sat_ex] at h
  exact h
theorem trA_close {mp p bp vp : Option Addr} {T : Trn} {R : HP} {w : World} (h : Sat (objA p [.int .i64 T.state, .int .i64 T.time, .int .i64 T.code, .int .i64 T.at_, .pointer bp, .pointer vp] * (bufA bp T.buf * (viewA vp mp bp T.view * R))) w) : Sat (trA mp p T * R) w := by
  simp only [trA, trO, ex_mul, mul_assoc', sat_ex]
  exact ⟨bp, vp, h⟩
structure Mgr where
  m : XMap
  book : Book
  all : List (Int × Trn)
  queue : List Int
  out : Int
  num : Int
  base : Int
  last : Int
  given : Int
  read : Bool
abbrev Prs := List (Int × (Option Addr × Trn))
def mcells (mp bk : Option Addr) (r : Nat) (qs : SV) (M : Mgr) : List Value := [.pointer mp, .pointer bk, .map (some r), slv qs, .int .i64 M.out, .int .i64 M.num, .int .i64 M.base, .int .i64 M.last, .int .i64 M.given, .bool M.read]
/-- The manager laid open: where its parts lie. -/
def mgrO (p mp bk : Option Addr) (r : Nat) (qs : SV) (xs : Prs) (M : Mgr) : HP :=
  objA p (mcells mp bk r qs M) * (xmapA mp M.m * (bookA bk M.book * (mapA r (on2 (fun x => .pointer x.1) xs) * (Sl.all xs (fun x => trA mp x.2.1 x.2.2) * ownS 1 qs (M.queue.map intv)))))
def mgrA (p : Option Addr) (M : Mgr) : HP := ex fun mp : Option Addr => ex fun bk : Option Addr => ex fun r : Nat => ex fun qs : SV => ex fun xs : Prs => lift (on2 Prod.snd xs = M.all) * mgrO p mp bk r qs xs M
theorem mgrA_open {p : Option Addr} {M : Mgr} {R : HP} {w : World} (h : Sat (mgrA p M * R) w) : ∃ mp bk r qs xs, on2 Prod.snd xs = M.all ∧ Sat (mgrO p mp bk r qs xs M * R) w := by
  simp only [mgrA, ex_mul, mul_assoc', sat_ex, sat_lift] at h
  exact h
theorem mgrA_close {p mp bk : Option Addr} {r : Nat} {qs : SV} {xs : Prs} {M : Mgr} {R : HP} {w : World} (h : Sat (mgrO p mp bk r qs xs M * R) w) (hx : on2 Prod.snd xs = M.all) : Sat (mgrA p M * R) w := by
  simp only [mgrA, ex_mul, mul_assoc', sat_ex, sat_lift]
  exact ⟨mp, bk, r, qs, xs, hx, h⟩
/-! ### The rules -/
def Mgr.new (blocks last : Int) : Mgr := ⟨⟨blocks, [], 0⟩, ⟨16, 0, []⟩, [], [], 0, 0, last, last, last, false⟩
def Mgr.opn (M : Mgr) (h : Int) : Option Trn :=
  match lkp M.all h with
  | some T => if T.state = 1 then some T else none
  | none => none
def freshT (M : Mgr) : Trn := ⟨1, 0, 0, M.last, ⟨M.m.blocks, 16, []⟩, ⟨M.last, ⟨64, []⟩, []⟩⟩
def Mgr.begin (M : Mgr) : Mgr × (Int × Int) :=
  if (M.book.open M.last).2.2 = 0 then ({ M with book := (M.book.open M.last).1, all := put M.all (M.book.open M.last).2.1 (freshT M) }, ((M.book.open M.last).2.1, 0))
  else (M, (0, (M.book.open M.last).2.2))
def Mgr.write (M : Mgr) (h : Int) (l : List Put) : Mgr × Int :=
  match M.opn h with
  | none => (M, 5)
  | some T => ({ M with all := put M.all h { T with buf := (T.buf.write l).1 } }, (T.buf.write l).2)
/-- a transaction ends. -/
def Mgr.end_ (M : Mgr) (h state code : Int) : Mgr :=
  match lkp M.all h with
  | none => M
  | some T => { M with all := put M.all h { T with state := state, code := code, time := if state = 4 then 0 else T.time }, book := (M.book.close h).1 }
def Mgr.abort (M : Mgr) (h : Int) : Mgr × Int :=
  match M.opn h with
  | none => (M, 5)
  | some _ => (M.end_ h 4 0, 0)
def Mgr.waiting (M : Mgr) : List Tx := M.queue.filterMap fun h => (lkp M.all h).map fun T => ⟨T.time, T.buf.puts⟩
def viewSet (V : View) : XSet := (XSet.add ⟨64, []⟩ V.set.l).1
def bufSet (B : Buf) : XSet := B.puts.foldl (fun S x => (S.add [⟨x.lba, 1⟩]).1) ⟨(B.puts.length : Nat), []⟩
def Mgr.may (M : Mgr) (T : Trn) : Int :=
  if M.read then 10 else if validM M.m M.waiting T.at_ (viewSet T.view) (bufSet T.buf) ≠ 0 then validM M.m M.waiting T.at_ (viewSet T.view) (bufSet T.buf)
  else if 1099511627776 ≤ M.given then 11 else 0
def Mgr.commit (M : Mgr) (h : Int) : Mgr × Int :=
  match M.opn h with
  | none => (M, 5)
  | some T =>
    if T.buf.data.length = 0 then (({ M with all := put M.all h { T with time := T.at_ } } : Mgr).end_ h 3 0, 0)
    else if M.may T ≠ 0 then (M.end_ h 4 (M.may T), M.may T)
    else ({ M with given := M.given + 1, all := put M.all h { T with state := 2, time := M.given + 1 }, queue := M.queue ++ [h] }, 0)
def Mgr.result (M : Mgr) (h : Int) : Int × Int × Int :=
  match lkp M.all h with
  | none => (0, 0, 0)
  | some T => (T.state, T.time, T.code)
def Mgr.batch (M : Mgr) : Mgr × (Int × List Tx) × Int :=
  if 0 < M.out then (M, (0, []), 16) else if M.queue.length = 0 then (M, (0, []), 14)
  else ({ M with out := formL M.waiting 0 0 }, (M.num + 1, M.waiting.take (formL M.waiting 0 0).toNat), 0)
/-- one transaction of a batch that is done. -/
def doneOne (code : Int) (M : Mgr) (x : Int × Tx) : Mgr :=
  if code ≠ 0 then M.end_ x.1 4 code else ({ M with m := (M.m.apply x.2).1, last := x.2.time } : Mgr).end_ x.1 3 0
def Mgr.done (M : Mgr) (code : Int) : Mgr × Int :=
  if M.out = 0 then (M, 14)
  else
    let M1 := ((M.queue.take M.out.toNat).zip (M.waiting.take M.out.toNat)).foldl (doneOne code) M
    ({ M1 with num := if code = 0 then M.num + 1 else M.num, queue := M.queue.drop M.out.toNat, out := 0 }, 0)
end Go.Mo
/- Reads: what a block was at a time, and a transaction's view of it; pruning: plain functions. -/
namespace Go.Mo
open Go Go.Vc Go.Sl
def zeros : List UInt8 := List.replicate 40 0
/-- The versions not above a time, the newest one first. -/
def upTo (l : List Put) (t : Int) : List Put := l.reverse.dropWhile fun v => decide (t < v.lba)
def valAt (l : List Put) (t : Int) : List UInt8 :=
  match upTo l t with
  | [] => zeros
  | v :: _ => v.data
def timeAt (l : List Put) (t : Int) : Int :=
  match upTo l t with
  | [] => 0
  | v :: _ => v.lba
def XMap.get (M : XMap) (lba t : Int) : List UInt8 := valAt (versOf M.vers lba) t
def within (M : XMap) (e : Ext) : Bool := decide (0 ≤ e.first) && decide (1 ≤ e.len) && decide (e.len ≤ M.blocks) && decide (e.first ≤ M.blocks - e.len)
def blocksOf (e : Ext) : List Int := (List.range e.len.toNat).map fun i : Nat => e.first + (i : Int)
def XMap.range (M : XMap) (e : Ext) (t : Int) : List UInt8 := (blocksOf e).flatMap fun k => M.get k t
/-- One block as one that reads sees it. -/
def seenB (M : XMap) (B : Buf) (t : Int) (k : Int) : Rd :=
  match lkp B.data k with
  | some d => ⟨k, d, true⟩
  | none => ⟨k, M.get k t, false⟩
def View.read (M : XMap) (B : Buf) (V : View) (e : Ext) : View × (List UInt8 × Int) :=
  if e.len < 1 ∨ 16 < e.len then (V, ([], 3)) else if within M e = false then (V, ([], 2)) else if (V.set.add [e]).2 ≠ 0 then (V, ([], 7))
  else ({ V with set := (V.set.add [e]).1, reads := V.reads ++ (blocksOf e).map (seenB M B V.at_) }, ((blocksOf e).flatMap fun k => (seenB M B V.at_ k).data, 0))
def Mgr.readE (M : Mgr) (h : Int) (e : Ext) : Mgr × (List UInt8 × Int) :=
  match M.opn h with
  | none => (M, ([], 5))
  | some T => ({ M with all := put M.all h { T with view := (T.view.read M.m T.buf e).1 } }, (T.view.read M.m T.buf e).2)
def Mgr.load (M : Mgr) (l : List Put) : Mgr × Int :=
  if 0 < M.all.length ∨ M.base = 0 ∧ 0 < l.length then (M, 1) else if l.length = 0 then (M, 0) else ({ M with m := (M.m.apply ⟨M.base, l⟩).1 }, (M.m.apply ⟨M.base, l⟩).2)
def Book.low (B : Book) (now : Int) : Int := B.times.foldl (fun a p => min a p.2) now
/-- What is left of versions that are pruned. -/
def pruned (h : Int) (l : List Put) : List Put := l.drop ((upTo l h).length - 1)
def XMap.prune (M : XMap) (h : Int) : XMap × Int := ({ M with vers := on2 (pruned h) M.vers }, ((M.vers.map fun q => (upTo q.2 h).length - 1).sum : Nat))
def XMap.versions (M : XMap) : Int := ((M.vers.map fun q => q.2.length).sum : Nat)
def XMap.dump (M : XMap) : List Put := (sortI (M.vers.map Prod.fst)).map fun k => ⟨k, ((versOf M.vers k).getLastD ⟨0, []⟩).data⟩
def Mgr.prune (M : Mgr) : Mgr × Int := ({ M with m := (M.m.prune (M.book.low M.last)).1 }, (M.m.prune (M.book.low M.last)).2)
theorem upTo_length_le (l : List Put) (t : Int) : (upTo l t).length ≤ l.length := by
  unfold upTo
  exact Nat.le_trans (List.dropWhile_suffix _).length_le (by simp)
/-- One more version, above the time: it is not looked at; else it is the newest. -/
theorem upTo_snoc (l : List Put) (v : Put) (t : Int) : upTo (l ++ [v]) t = if t < v.lba then upTo l t else v :: l.reverse := by
  unfold upTo
  rw [List.reverse_append]
  simp only [List.reverse_cons, List.reverse_nil, List.nil_append, List.singleton_append, List.dropWhile_cons]
  by_cases h : t < v.lba <;> simp [h]
theorem upTo_mem {l : List Put} {t : Int} {v : Put} (h : v ∈ upTo l t) : v ∈ l := by
  unfold upTo at h
  exact List.mem_reverse.1 ((List.dropWhile_suffix _).subset h)
theorem valAt_length {l : List Put} (t : Int) (h : ∀ x ∈ l, x.data.length = 40) : (valAt l t).length = 40 := by
  unfold valAt
  split
  · simp [zeros]
  · rename_i v r e
    exact h v (upTo_mem (by rw [e]; simp))
end Go.Mo
