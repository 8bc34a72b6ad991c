/- Assertions on parts of the heap that lie apart, and what one step of a function does to them. -/
import Derived.Test.YtbolgpjcmchfoaaGreatVe
namespace Go.Sl
open Go Go.Vc
/-! ### Heaps, assertions -/
abbrev Heap := Nat → Option Obj
def hp (w : World) : Heap := fun b => w.heap[b]?
def le (h g : Heap) : Prop := ∀ b o, h b = some o → g b = some o
def HP : Type := Heap → Prop
def sep (A B : HP) : HP := fun h => ∃ h1 h2 : Heap, (∀ b, h1 b = none ∨ h2 b = none) ∧ (∀ b, h b = (h1 b).or (h2 b)) ∧ A h1 ∧ B h2
def emp : HP := fun h => ∀ b, h b = none
instance : Mul HP := ⟨sep⟩
instance : One HP := ⟨emp⟩
def pt (b : Nat) (o : Obj) : HP := fun h => ∀ c, h c = if c = b then some o else none
def lift (φ : Prop) : HP := fun h => φ ∧ ∀ b, h b = none
def ex {α : Sort _} (A : α → HP) : HP := fun h => ∃ x, A x h
def all {α : Type} : List α → (α → HP) → HP
  | [], _ => 1
  | x :: l, A => A x * all l A
def Sat (A : HP) (w : World) : Prop := ∃ h : Heap, le h (hp w) ∧ A h
@[ext] theorem HP.ext {A B : HP} (h : ∀ x, A x ↔ B x) : A = B := funext fun x => propext (h x)
theorem mul_def (A B : HP) (h : Heap) : (A * B) h ↔ ∃ h1 h2 : Heap, (∀ b, h1 b = none ∨ h2 b = none) ∧ (∀ b, h b = (h1 b).or (h2 b)) ∧ A h1 ∧ B h2 := Iff.rfl
theorem one_def (h : Heap) : (1 : HP) h ↔ ∀ b, h b = none := Iff.rfl
theorem mul_comm' (A B : HP) : A * B = B * A := by
  have key : ∀ A B : HP, ∀ h, (A * B) h → (B * A) h := by
    rintro A B h ⟨h1, h2, hd, hu, ha, hb⟩
    refine ⟨h2, h1, fun b => (hd b).symm, fun b => ?_, hb, ha⟩
    rw [hu b]
    rcases hd b with e | e <;> rw [e] <;> simp
  ext h
  exact ⟨key A B h, key B A h⟩
theorem mul_assoc' (A B C : HP) : A * B * C = A * (B * C) := by
  ext h
  constructor
  · rintro ⟨h12, h3, hd, hu, ⟨h1, h2, hd', hu', ha, hb⟩, hc⟩
    refine ⟨h1, fun b => (h2 b).or (h3 b), fun b => ?_, fun b => ?_, ha, h2, h3, fun b => ?_, fun _ => rfl, hb, hc⟩
    · have := hd b; have := hd' b; rw [hu' b] at *
      cases e1 : h1 b <;> cases e2 : h2 b <;> cases e3 : h3 b <;> simp_all
    · rw [hu b, hu' b]; cases h1 b <;> simp
    · have := hd b; rw [hu' b] at this
      cases e1 : h1 b <;> cases e2 : h2 b <;> cases e3 : h3 b <;> simp_all
  · rintro ⟨h1, h23, hd, hu, ha, h2, h3, hd', hu', hb, hc⟩
    refine ⟨fun b => (h1 b).or (h2 b), h3, fun b => ?_, fun b => ?_, ⟨h1, h2, fun b => ?_, fun _ => rfl, ha, hb⟩, hc⟩
    · have := hd b; have := hd' b; rw [hu' b] at *
      cases e1 : h1 b <;> cases e2 : h2 b <;> cases e3 : h3 b <;> simp_all
    · show h b = ((h1 b).or (h2 b)).or (h3 b)
      rw [hu b, hu' b]; cases h1 b <;> simp
    · have := hd b; rw [hu' b] at this
      cases e1 : h1 b <;> cases e2 : h2 b <;> cases e3 : h3 b <;> simp_all
instance : Std.Commutative (α := HP) (· * ·) := ⟨mul_comm'⟩
instance : Std.Associative (α := HP) (· * ·) := ⟨mul_assoc'⟩
@[simp] theorem one_mul' (A : HP) : 1 * A = A := by
  ext h
  constructor
  · rintro ⟨h1, h2, hd, hu, h0, ha⟩
    have : h = h2 := funext fun b => by rw [hu b, h0 b]; simp
    exact this ▸ ha
  · intro ha
    exact ⟨fun _ => none, h, fun _ => .inl rfl, fun _ => by simp, fun _ => rfl, ha⟩
@[simp] theorem mul_one' (A : HP) : A * 1 = A := by rw [mul_comm', one_mul']
theorem ex_mul {α : Sort _} (A : α → HP) (B : HP) : ex A * B = ex fun x => A x * B := by
  ext h
  constructor
  · rintro ⟨h1, h2, hd, hu, ⟨x, ha⟩, hb⟩
    exact ⟨x, h1, h2, hd, hu, ha, hb⟩
  · rintro ⟨x, h1, h2, hd, hu, ha, hb⟩
    exact ⟨h1, h2, hd, hu, ⟨x, ha⟩, hb⟩
theorem lift_mul (φ : Prop) (B : HP) (h : Heap) : (lift φ * B) h ↔ φ ∧ B h := by
  constructor
  · rintro ⟨h1, h2, hd, hu, ⟨hφ, h0⟩, hb⟩
    have : h = h2 := funext fun b => by rw [hu b, h0 b]; simp
    exact ⟨hφ, this ▸ hb⟩
  · rintro ⟨hφ, hb⟩
    exact ⟨fun _ => none, h, fun _ => .inl rfl, fun _ => by simp, ⟨hφ, fun _ => rfl⟩, hb⟩
theorem all_append {α : Type} (l r : List α) (A : α → HP) : all (l ++ r) A = all l A * all r A := by
  induction l with
  | nil => simp [all]
  | cons x l ih => simp [all, ih, mul_assoc']
theorem all_congr {α : Type} {l : List α} {A B : α → HP} (h : ∀ x ∈ l, A x = B x) : all l A = all l B := by
  induction l with
  | nil => rfl
  | cons x l ih => simp [all, h x (by simp), ih fun y hy => h y (by simp [hy])]
theorem all_map {α β : Type} (f : β → α) (l : List β) (A : α → HP) : all (l.map f) A = all l fun x => A (f x) := by
  induction l with
  | nil => rfl
  | cons x l ih => simp [all, ih]

/-! ### What holds in a world -/
theorem Sat.eq {A B : HP} {w : World} (h : Sat A w) (e : A = B) : Sat B w := e ▸ h
theorem Sat.imp {A B : HP} {w : World} (h : Sat A w) (e : ∀ g, A g → B g) : Sat B w := let ⟨g, hg, ha⟩ := h; ⟨g, hg, e _ ha⟩
theorem Sat.imp_left {A B R : HP} {w : World} (h : Sat (A * R) w) (e : ∀ g, A g → B g) : Sat (B * R) w := by
  obtain ⟨g, hg, h1, h2, hd, hu, ha, hr⟩ := h
  exact ⟨g, hg, h1, h2, hd, hu, e _ ha, hr⟩
theorem Sat.of_heap {A : HP} {w w' : World} (h : Sat A w) (e : w'.heap = w.heap) : Sat A w' := by
  obtain ⟨g, hg, ha⟩ := h
  refine ⟨g, fun b o hb => ?_, ha⟩
  simpa [hp, e] using hg b o hb
theorem Sat.drew {A : HP} {w : World} (h : Sat A w) : Sat A w.drew := h.of_heap rfl
theorem sat_ex {α : Sort _} {A : α → HP} {w : World} : Sat (ex A) w ↔ ∃ x, Sat (A x) w :=
  ⟨fun ⟨h, hh, x, ha⟩ => ⟨x, h, hh, ha⟩, fun ⟨x, h, hh, ha⟩ => ⟨h, hh, x, ha⟩⟩
theorem sat_lift {φ : Prop} {B : HP} {w : World} : Sat (lift φ * B) w ↔ φ ∧ Sat B w :=
  ⟨fun ⟨h, hh, ha⟩ => ⟨((lift_mul _ _ _).1 ha).1, h, hh, ((lift_mul _ _ _).1 ha).2⟩, fun ⟨hφ, h, hh, ha⟩ => ⟨h, hh, (lift_mul _ _ _).2 ⟨hφ, ha⟩⟩⟩
theorem Sat.right {A B : HP} {w : World} (h : Sat (A * B) w) : Sat B w := by
  obtain ⟨g, hg, h1, h2, hd, hu, ha, hb⟩ := h
  refine ⟨h2, fun b o hb' => hg b o ?_, hb⟩
  rw [hu b, hb']
  rcases hd b with e | e
  · simp [e]
  · rw [e] at hb'; simp at hb'
theorem Sat.left {A B : HP} {w : World} (h : Sat (A * B) w) : Sat A w := (h.eq (mul_comm' A B)).right
/-- From here on any assertion holds that holds of nothing. -/
theorem Sat.one {A : HP} {w : World} (_ : Sat A w) : Sat 1 w := ⟨fun _ => none, fun _ _ h => by simp at h, fun _ => rfl⟩
theorem Sat.get {b : Nat} {o : Obj} {R : HP} {w : World} (h : Sat (pt b o * R) w) : w.heap[b]? = some o := by
  obtain ⟨g, hg, ha⟩ := h.left
  exact hg b o (by rw [ha b]; simp)
theorem Sat.lt {b : Nat} {o : Obj} {R : HP} {w : World} (h : Sat (pt b o * R) w) : b < w.heap.size := by
  have := h.get
  rw [Array.getElem?_eq_some_iff] at this
  exact this.1
theorem hp_lt {w : World} {g : Heap} (hg : le g (hp w)) {b : Nat} (hb : w.heap.size ≤ b) : g b = none := by
  cases e : g b with
  | none => rfl
  | some o =>
    have := hg b o e
    simp only [hp, Array.getElem?_eq_none hb] at this
    cases this
theorem Sat.ne {b c : Nat} {o o' : Obj} {R : HP} {w : World} (h : Sat (pt b o * (pt c o' * R)) w) : b ≠ c := by
  intro e
  subst e
  obtain ⟨g, hg, h1, h2, hd, hu, ha, h3, h4, hd', hu', hb, hr⟩ := h
  have e1 := ha b
  have e2 := hb b
  simp only [↓reduceIte] at e1 e2
  have := hd b
  rw [hu' b, e1, e2] at this
  simp at this
theorem Sat.alloc {R : HP} {w : World} (o : Obj) (h : Sat R w) : Sat (pt w.heap.size o * R) (w.alloc o) := by
  obtain ⟨g, hg, hr⟩ := h
  refine ⟨fun b => if b = w.heap.size then some o else g b, fun b p hb => ?_, fun b => if b = w.heap.size then some o else none, g, fun b => ?_, fun b => ?_, fun _ => rfl, hr⟩
  · simp only [hp, World.alloc, Array.getElem?_push]
    by_cases e : b = w.heap.size
    · simp only [e, ↓reduceIte] at hb ⊢; exact hb
    · simp only [e, ↓reduceIte] at hb ⊢; exact hg b p hb
  · by_cases e : b = w.heap.size
    · exact .inr (hp_lt hg (by omega))
    · simp [e]
  · by_cases e : b = w.heap.size
    · simp [e]
    · simp [e]
theorem Sat.change {b : Nat} {o o' : Obj} {R : HP} {w w' : World} (h : Sat (pt b o * R) w) (hb : w'.heap[b]? = some o') (hc : ∀ c, c ≠ b → w.heap[c]? = w'.heap[c]?) : Sat (pt b o' * R) w' := by
  obtain ⟨g, hg, h1, h2, hd, hu, ha, hr⟩ := h
  have h2b : h2 b = none := by
    rcases hd b with e | e
    · rw [ha b] at e; simp at e
    · exact e
  refine ⟨fun c => if c = b then some o' else h2 c, fun c p hp' => ?_, fun c => if c = b then some o' else none, h2, fun c => ?_, fun c => ?_, fun _ => rfl, hr⟩
  · by_cases e : c = b
    · simp only [e, ↓reduceIte] at hp' ⊢; simp only [hp, hb]; exact hp'
    · simp only [e, ↓reduceIte] at hp'
      have := hg c p (by rw [hu c, ha c]; simp [e, hp'])
      simpa only [hp, ← hc c e] using this
  · by_cases e : c = b
    · subst e; exact .inr h2b
    · simp [e]
  · by_cases e : c = b <;> simp [e]
theorem Sat.setObj {b : Nat} {o : Obj} {R : HP} {w : World} (h : Sat (pt b o * R) w) (o' : Obj) : Sat (pt b o' * R) (World.setObj w b o') := by
  have hl := h.lt
  refine h.change (o' := o') ?_ fun c hc => ?_
  · simp [World.setObj, hl]
  · simp [World.setObj, Ne.symm hc]
theorem Sat.setCell {b : Nat} {c : Array Value} {t : TypeId} {fr : Nat × Nat} {R : HP} {w : World} (h : Sat (pt b (.cells c t fr) * R) w) (i : Nat) (v : Value) :
    Sat (pt b (.cells (c.setIfInBounds i v) t fr) * R) (w.setCell ⟨b, i, none⟩ v) := by
  have hl := h.get
  refine h.change ?_ fun c hc => ?_
  · simp [World.setCell, Array.getElem?_modify, hl]
  · simp [World.setCell, Array.getElem?_modify, Ne.symm hc]

/-! ### Cells -/
@[simp] theorem add_mk (b o n : Nat) : Addr.add ⟨b, o, none⟩ n = ⟨b, o + n, none⟩ := by
  unfold Addr.add
  split <;> simp_all
def cellH (h : Heap) (a : Addr) : Option Value :=
  match h a.block with
  | some (.cells c _ _) => if a.spot.isSome then none else c[a.off]?
  | _ => none
theorem cell_hp (w : World) (a : Addr) : w.cell? a = cellH (hp w) a := rfl
theorem cellH_le {h g : Heap} (hg : le h g) {a : Addr} {v : Value} (e : cellH h a = some v) : cellH g a = some v := by
  unfold cellH at e ⊢
  cases e' : h a.block with
  | none => simp [e'] at e
  | some o => rw [hg _ _ e']; rw [e'] at e; exact e
theorem Sat.cell {b : Nat} {c : Array Value} {t : TypeId} {fr : Nat × Nat} {R : HP} {w : World} (h : Sat (pt b (.cells c t fr) * R) w) (i : Nat) : w.cell? ⟨b, i, none⟩ = c[i]? := by
  simp [World.cell?, h.get]
theorem Sat.frozen {b : Nat} {c : Array Value} {t : TypeId} {R : HP} {w : World} (h : Sat (pt b (.cells c t (0, 0)) * R) w) (i : Nat) : w.frozen? ⟨b, i, none⟩ = false := by
  simp [World.frozen?, h.get]
/-- What is read of a frame is read in the world. -/
theorem Sat.on {A R : HP} {w : World} (h : Sat (A * R) w) {φ : Heap → Prop} (hφ : ∀ g, R g → φ g) (hm : ∀ g g', le g g' → φ g → φ g') : φ (hp w) := by
  obtain ⟨g, hg, hr⟩ := h.right
  exact hm g _ hg (hφ g hr)
/-- All that lies in a world. -/
def whole (w : World) : HP := fun h => ∀ b, h b = w.heap[b]?
theorem sat_whole (w : World) : Sat (whole w) w := ⟨hp w, fun _ _ h => h, fun _ => rfl⟩
theorem Sat.whole {w0 w : World} {R : HP} (h : Sat (Sl.whole w0 * R) w) {b : Nat} (hb : b < w0.heap.size) : w.heap[b]? = w0.heap[b]? := by
  obtain ⟨g, hg, ha⟩ := h.left
  have := hg b w0.heap[b] (by rw [ha b]; simp [hb])
  rw [hp] at this
  rw [this]; simp [hb]
/-- what came of a world by growth alone. -/
theorem Sat.grow {R : HP} {w w' : World} (h : Sat R w) (e : ∀ b, b < w.heap.size → w'.heap[b]? = w.heap[b]?) : Sat R w' := by
  obtain ⟨g, hg, hr⟩ := h
  refine ⟨g, fun b o hb => ?_, hr⟩
  have := hg b o hb
  rw [hp] at this ⊢
  rw [e b]
  · exact this
  · rw [Array.getElem?_eq_some_iff] at this; exact this.1
theorem Sat.grow_new {R : HP} {w w' : World} (h : Sat R w) (e : ∀ b, b < w.heap.size → w'.heap[b]? = w.heap[b]?) {b : Nat} {o : Obj} (hb : w.heap.size ≤ b) (ho : w'.heap[b]? = some o) : Sat (pt b o * R) w' := by
  obtain ⟨g, hg, hr⟩ := h
  refine ⟨fun c => if c = b then some o else g c, fun c p hc => ?_, fun c => if c = b then some o else none, g, fun c => ?_, fun c => ?_, fun _ => rfl, hr⟩
  · by_cases ec : c = b
    · simp only [ec, ↓reduceIte] at hc ⊢; rw [hp, ho]; exact hc
    · simp only [ec, ↓reduceIte] at hc
      have := hg c p hc
      rw [hp] at this ⊢
      rw [e c]
      · exact this
      · rw [Array.getElem?_eq_some_iff] at this; exact this.1
  · by_cases ec : c = b
    · subst ec; exact .inr (hp_lt hg hb)
    · simp [ec]
  · by_cases ec : c = b <;> simp [ec]

/-! ### Introducing the words of the conditions -/
theorem withW_i {w : World} {k : World → Prop} (h : k w) : withW w k := h
theorem withW_iff {w : World} {k : World → Prop} : withW w k ↔ k w := Iff.rfl
theorem withI_iff {x : Int} {k : Int → Prop} : withI x k ↔ k x := Iff.rfl
theorem gen_w {A : HP} {w : World} (h : Sat A w) {k : World → Prop} (hk : ∀ w', Sat A w' → k w') : withW w k := hk w h
theorem bsplit_iff {b : Bool} {x y : Prop} : bsplit b x y ↔ (b = true → x) ∧ (b = false → y) := by
  cases b <;> simp [bsplit]
theorem bsplit_decide {p : Prop} [Decidable p] {x y : Prop} : bsplit (decide p) x y ↔ (p → x) ∧ (¬ p → y) := by
  rw [bsplit_iff]; simp
theorem onP_some {a : Addr} {k : Addr → Prop} : onP (some a) k ↔ k a := Iff.rfl
theorem onP_none {k : Addr → Prop} : onP none k ↔ False := Iff.rfl
theorem onM_some {r : Nat} {k0 : Prop} {k : Nat → Prop} : onM (some r) k0 k ↔ k r := Iff.rfl
theorem onM_none {k0 : Prop} {k : Nat → Prop} : onM none k0 k ↔ k0 := Iff.rfl
theorem onO_some {α : Type} {a : α} {k : α → Prop} : onO (some a) k ↔ k a := Iff.rfl
end Go.Sl
