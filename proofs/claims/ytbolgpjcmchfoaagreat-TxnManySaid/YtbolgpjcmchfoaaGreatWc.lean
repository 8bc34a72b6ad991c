/- Maps that a function owns; a range over one. -/
import Derived.Test.YtbolgpjcmchfoaaGreatWb
namespace Go.Sl
open Go Go.Vc
/-! ### Lists of keys and values -/
section
variable {α β : Type}
def lkp : List (Int × α) → Int → Option α
  | [], _ => none
  | (i, x) :: r, k => if k = i then some x else lkp r k
def put : List (Int × α) → Int → α → List (Int × α)
  | [], k, v => [(k, v)]
  | (i, x) :: r, k, v => if k = i then (i, v) :: r else (i, x) :: put r k v
def del : List (Int × α) → Int → List (Int × α)
  | [], _ => []
  | (i, x) :: r, k => if k = i then r else (i, x) :: del r k
def on2 (f : α → β) (l : List (Int × α)) : List (Int × β) := l.map fun p => (p.1, f p.2)
theorem lkp_on2 (f : α → β) (l : List (Int × α)) (k : Int) : lkp (on2 f l) k = (lkp l k).map f := by
  induction l with
  | nil => rfl
  | cons p r ih => simp only [on2, List.map_cons, lkp] at ih ⊢; split <;> simp_all
theorem put_on2 (f : α → β) (l : List (Int × α)) (k : Int) (v : α) : put (on2 f l) k (f v) = on2 f (put l k v) := by
  induction l with
  | nil => rfl
  | cons p r ih => simp only [on2, List.map_cons, put] at ih ⊢; split <;> simp_all
theorem del_on2 (f : α → β) (l : List (Int × α)) (k : Int) : del (on2 f l) k = on2 f (del l k) := by
  induction l with
  | nil => rfl
  | cons p r ih => simp only [on2, List.map_cons, del] at ih ⊢; split <;> simp_all
theorem length_on2 (f : α → β) (l : List (Int × α)) : (on2 f l).length = l.length := by simp [on2]
theorem lkp_put (l : List (Int × α)) (k j : Int) (v : α) : lkp (put l k v) j = if j = k then some v else lkp l j := by
  induction l with
  | nil => simp [put, lkp]
  | cons p r ih =>
    simp only [put]
    by_cases h : k = p.1
    · simp only [h, ↓reduceIte, lkp]
      split <;> rfl
    · simp only [h, ↓reduceIte, lkp, ih]
      by_cases hj : j = p.1
      · have : j ≠ k := by omega
        simp_all
      · simp [hj]
theorem lkp_mem {l : List (Int × α)} {k : Int} {v : α} (h : lkp l k = some v) : (k, v) ∈ l := by
  induction l with
  | nil => simp [lkp] at h
  | cons p r ih =>
    simp only [lkp] at h
    split at h
    · rename_i e; subst e; cases h; simp
    · simp [ih h]
theorem lkp_none {l : List (Int × α)} {k : Int} : lkp l k = none ↔ k ∉ l.map Prod.fst := by
  induction l with
  | nil => simp [lkp]
  | cons p r ih => simp only [lkp]; split <;> simp_all
theorem lkp_of_mem {l : List (Int × α)} (hn : (l.map Prod.fst).Nodup) {k : Int} {v : α} (h : (k, v) ∈ l) : lkp l k = some v := by
  induction l with
  | nil => simp at h
  | cons p r ih =>
    simp only [List.map_cons, List.nodup_cons] at hn
    simp only [lkp]
    rcases List.mem_cons.1 h with e | e
    · subst e; simp
    · have : k ≠ p.1 := fun e' => hn.1 (e' ▸ List.mem_map_of_mem (f := Prod.fst) e)
      simp [this, ih hn.2 e]
theorem keys_put (l : List (Int × α)) (k : Int) (v : α) : (put l k v).map Prod.fst = if k ∈ l.map Prod.fst then l.map Prod.fst else l.map Prod.fst ++ [k] := by
  induction l with
  | nil => simp [put]
  | cons p r ih =>
    simp only [put]
    by_cases h : k = p.1
    · simp [h]
    · simp only [h, ↓reduceIte, List.map_cons, ih, List.mem_cons, false_or]
      split <;> simp
theorem put_new {l : List (Int × α)} {k : Int} (h : lkp l k = none) (v : α) : put l k v = l ++ [(k, v)] := by
  induction l with
  | nil => rfl
  | cons p r ih =>
    simp only [lkp] at h
    split at h
    · cases h
    · rename_i e; simp [put, e, ih h]
theorem del_eq (l : List (Int × α)) (hn : (l.map Prod.fst).Nodup) (k : Int) : del l k = l.filter fun p => p.1 ≠ k := by
  induction l with
  | nil => rfl
  | cons p r ih =>
    simp only [List.map_cons, List.nodup_cons] at hn
    simp only [del]
    by_cases h : k = p.1
    · simp only [h, ↓reduceIte]
      rw [List.filter_cons_of_neg (by simp)]
      refine (List.filter_eq_self.2 fun q hq => ?_).symm
      have : q.1 ≠ p.1 := fun e => hn.1 (e ▸ List.mem_map_of_mem (f := Prod.fst) hq)
      simpa using this
    · simp only [h, ↓reduceIte, ih hn.2]
      rw [List.filter_cons_of_pos (by simpa using fun e => h e.symm)]
end
/-! ### A map in the heap -/
def MapOk (es : List En) (clock : Nat) : Prop := (es.map En.k).Nodup ∧ (es.map En.b).Nodup ∧ ∀ e ∈ es, e.b < clock
def kvs (es : List En) : List (Int × Value) := es.map fun e => (e.k, e.v)
def mapE (r : Nat) (es : List En) (clock : Nat) : HP := pt r (.map (entries .i64 es) clock)
def mapA (r : Nat) (l : List (Int × Value)) : HP := ex fun es : List En => ex fun clock : Nat => lift (MapOk es clock ∧ kvs es = l) * mapE r es clock
theorem mapA_open {r : Nat} {l : List (Int × Value)} {R : HP} {w : World} (h : Sat (mapA r l * R) w) : ∃ es clock, MapOk es clock ∧ kvs es = l ∧ Sat (mapE r es clock * R) w := by
  simp only [mapA, ex_mul, mul_assoc', sat_ex, sat_lift] at h
  obtain ⟨es, cl, ⟨h1, h2⟩, h3⟩ := h
  exact ⟨es, cl, h1, h2, h3⟩
theorem mapA_close {r : Nat} {es : List En} {clock : Nat} {R : HP} {w : World} (h : Sat (mapE r es clock * R) w) (ok : MapOk es clock) : Sat (mapA r (kvs es) * R) w := by
  simp only [mapA, ex_mul, mul_assoc', sat_ex, sat_lift]
  exact ⟨es, clock, ⟨ok, rfl⟩, h⟩
theorem mapE_at {r : Nat} {es : List En} {clock : Nat} {R : HP} {w : World} (h : Sat (mapE r es clock * R) w) : mapAt w r .i64 es clock := h.get
theorem findE_kvs (es : List En) (k : Int) : findE es k = lkp (kvs es) k := by
  induction es with
  | nil => rfl
  | cons e r ih => simp only [findE, kvs, List.map_cons, lkp] at ih ⊢; rw [ih]
theorem hasE_kvs (es : List En) (k : Int) : hasE es k = (lkp (kvs es) k).isSome := by
  induction es with
  | nil => rfl
  | cons e r ih => simp only [hasE, kvs, List.map_cons, lkp] at ih ⊢; rw [ih]; split <;> rfl
theorem kvs_set (es : List En) (k : Int) (v : Value) (h : hasE es k = true) : kvs (setE es k v) = put (kvs es) k v := by
  induction es with
  | nil => cases h
  | cons e r ih =>
    simp only [hasE] at h
    simp only [setE, kvs, List.map_cons, put] at ih ⊢
    split at h
    · rename_i e'; simp [e']
    · rename_i e'; simp only [e', ↓reduceIte, List.map_cons, ih h]
theorem kvs_put (es : List En) (c : Nat) (k : Int) (v : Value) : kvs (putM es c k v) = put (kvs es) k v := by
  unfold putM
  split
  · rename_i h; exact kvs_set es k v h
  · rename_i h
    have : lkp (kvs es) k = none := by rw [hasE_kvs] at h; simpa using h
    rw [put_new this]; simp [kvs]
theorem kvs_del (es : List En) (k : Int) : kvs (delE es k) = del (kvs es) k := by
  induction es with
  | nil => rfl
  | cons e r ih => simp only [delE, kvs, List.map_cons, del] at ih ⊢; split <;> simp_all
theorem set_k (es : List En) (k : Int) (v : Value) : (setE es k v).map En.k = es.map En.k := by
  induction es with
  | nil => rfl
  | cons e r ih => simp only [setE]; split <;> simp_all
theorem set_b (es : List En) (k : Int) (v : Value) : (setE es k v).map En.b = es.map En.b := by
  induction es with
  | nil => rfl
  | cons e r ih => simp only [setE]; split <;> simp_all
theorem mem_b {es : List En} {P : Nat → Prop} : (∀ e ∈ es, P e.b) ↔ ∀ b ∈ es.map En.b, P b := by simp
theorem hasE_mem {es : List En} {k : Int} : hasE es k = true ↔ k ∈ es.map En.k := by
  induction es with
  | nil => simp [hasE]
  | cons e r ih => simp only [hasE]; split <;> simp_all
theorem MapOk.put {es : List En} {clock : Nat} (ok : MapOk es clock) (k : Int) (v : Value) : MapOk (putM es clock k v) (putClock es clock k) := by
  obtain ⟨h1, h2, h3⟩ := ok
  unfold putM putClock
  split
  · refine ⟨by rw [set_k]; exact h1, by rw [set_b]; exact h2, ?_⟩
    intro e he
    have : e.b ∈ es.map En.b := set_b es k v ▸ List.mem_map_of_mem (f := En.b) he
    exact (mem_b (P := fun b => b < clock)).1 h3 _ this
  · rename_i h
    rw [hasE_mem] at h
    refine ⟨?_, ?_, ?_⟩
    · rw [List.map_append, List.nodup_append]
      exact ⟨h1, by simp, by intro a ha b hb; simp at hb; subst hb; exact fun e => h (e ▸ ha)⟩
    · rw [List.map_append, List.nodup_append]
      refine ⟨h2, by simp, fun a ha b hb => ?_⟩
      simp at hb; subst hb
      obtain ⟨e, he, rfl⟩ := List.mem_map.1 ha
      exact Nat.ne_of_lt (h3 e he)
    · intro e he
      rcases List.mem_append.1 he with he | he
      · exact Nat.lt_succ_of_lt (h3 e he)
      · simp at he; subst he; exact Nat.lt_succ_self _
theorem del_sublist (es : List En) (k : Int) : (delE es k).Sublist es := by
  induction es with
  | nil => exact List.Sublist.refl _
  | cons e r ih =>
    simp only [delE]; split
    · exact List.sublist_cons_self _ _
    · exact ih.cons_cons _
theorem MapOk.del {es : List En} {clock : Nat} (ok : MapOk es clock) (k : Int) : MapOk (delE es k) clock :=
  ⟨ok.1.sublist ((del_sublist es k).map _), ok.2.1.sublist ((del_sublist es k).map _), fun e he => ok.2.2 e ((del_sublist es k).subset he)⟩
theorem MapOk.nodup {es : List En} {clock : Nat} (ok : MapOk es clock) : ((kvs es).map Prod.fst).Nodup := by
  have : (kvs es).map Prod.fst = es.map En.k := by simp [kvs, Function.comp_def]
  rw [this]; exact ok.1
theorem mapA_nodup {r : Nat} {l : List (Int × Value)} {R : HP} {w : World} (h : Sat (mapA r l * R) w) : (l.map Prod.fst).Nodup := by
  obtain ⟨es, cl, ok, rfl, _⟩ := mapA_open h
  exact ok.nodup
/-- Reading. -/
theorem mapA_get {r : Nat} {l : List (Int × Value)} {R : HP} {w : World} (h : Sat (mapA r l * R) w) : ∃ es, (∃ cl, mapAt w r .i64 es cl) ∧ (∀ k, findE es k = lkp l k) ∧ es.length = l.length := by
  obtain ⟨es, cl, ok, rfl, h1⟩ := mapA_open h
  exact ⟨es, ⟨cl, mapE_at h1⟩, findE_kvs es, by simp [kvs]⟩
/-- Writing. -/
theorem mapA_put {r : Nat} {l : List (Int × Value)} {R : HP} {w : World} (h : Sat (mapA r l * R) w) (k : Int) (v : Value) : ∃ es cl, mapAt w r .i64 es cl ∧ (∀ k, findE es k = lkp l k) ∧
    Sat (mapA r (put l k v) * R) (World.setObj w r (.map (entries .i64 (putM es cl k v)) (putClock es cl k))) := by
  obtain ⟨es, cl, ok, rfl, h1⟩ := mapA_open h
  refine ⟨es, cl, mapE_at h1, findE_kvs es, ?_⟩
  rw [← kvs_put es cl]
  exact mapA_close (Sat.setObj h1 _) (ok.put k v)
theorem mapA_del {r : Nat} {l : List (Int × Value)} {R : HP} {w : World} (h : Sat (mapA r l * R) w) (k : Int) : ∃ es cl, mapAt w r .i64 es cl ∧
    Sat (mapA r (del l k) * R) (World.setObj w r (.map (entries .i64 (delE es k)) cl)) := by
  obtain ⟨es, cl, ok, rfl, h1⟩ := mapA_open h
  refine ⟨es, cl, mapE_at h1, ?_⟩
  rw [← kvs_del es]
  exact mapA_close (Sat.setObj h1 _) (ok.del k)
theorem mapA_new {R : HP} {w : World} (h : Sat R w) : Sat (mapA w.heap.size [] * R) (w.alloc (.map #[] 0)) :=
  mapA_close (es := []) (clock := 0) (h.alloc _) ⟨by simp, by simp, by simp⟩

/-! ### A range over a map -/
def iterP (it r : Nat) (clock : Nat) (seen : Array Nat) : HP := pt it (.mapIter (some r) clock seen clock)
/-- How many are to come. -/
def left (es : List En) (seen : Array Nat) : Nat := (es.filter fun e => !decide (e.b ∈ seen)).length
theorem left_lt {es : List En} {seen : Array Nat} {e : En} (he : e ∈ es) (hs : e.b ∉ seen) : left es (seen.push e.b) < left es seen := by
  unfold left
  induction es with
  | nil => simp at he
  | cons f r ih =>
    have key : (r.filter fun e' => !decide (e'.b ∈ seen.push e.b)).length ≤ (r.filter fun e => !decide (e.b ∈ seen)).length := by
      clear ih he
      induction r with
      | nil => simp
      | cons g q ih =>
        simp only [List.filter_cons]
        by_cases h1 : g.b ∈ seen
        · have : g.b ∈ seen.push e.b := by simp [h1]
          simp [h1, this]; simpa using ih
        · by_cases h2 : g.b ∈ seen.push e.b
          · simp [h1, h2]; have := ih; simp at this; omega
          · simp [h1, h2]; simpa using ih
    simp only [List.filter_cons]
    by_cases h1 : f.b ∈ seen
    · have h2 : f.b ∈ seen.push e.b := by simp [h1]
      have : e ∈ r := by
        rcases List.mem_cons.1 he with e' | e'
        · subst e'; exact absurd h1 hs
        · exact e'
      have := ih this
      simp [h1, h2]; simpa using this
    · by_cases h2 : f.b ∈ seen.push e.b
      · simp [h1, h2]; simp at key; omega
      · rcases List.mem_cons.1 he with e' | e'
        · subst e'; simp at h2
        · have := ih e'
          simp [h1, h2]; simpa using this
abbrev iterR {X : Type} (enc : X → Value) (it : Addr) (w : World) (nil : World → Prop) (body : En → X → World → Prop) (done : World → Prop) : Prop :=
  it.off = 0 ∧ ∃ (m : Option Nat) (si : Nat) (se : Array Nat) (st : Nat), w.heap[it.block]? = some (.mapIter m si se st) ∧
    onM m (nil w) fun m => ∃ (es : List En) (cl : Nat), mapAt w m .i64 es cl ∧ (se = #[] ∨ es = [] ∨ ∃ e ∈ es, e.b < st) ∧
      (∀ e ∈ es, e.b ∉ se → ∀ w1, (w1 = w ∨ w1 = w.drew) → withW (World.setObj w1 it.block (.mapIter (some m) si (se.push e.b) cl)) fun w2 =>
        it.off = 0 ∧ ∃ (m2 si2 : Nat) (se2 : Array Nat) (st2 : Nat), w2.heap[it.block]? = some (.mapIter (some m2) si2 se2 st2) ∧ ∃ (es2 : List En), mapAt w2 m2 .i64 es2 st2 ∧
          ∃ e2, se2.back? = some e2.b ∧ e2 ∈ es2 ∧ (∀ f ∈ es2, f.b = e2.b → f = e2) ∧ ∃ x : X, e2.v = enc x ∧ body e2 x w2) ∧
      ((∀ e ∈ es, e.b < si → e.b ∈ se) → ∀ w1, (w1 = w ∨ w1 = w.drew) → done w1)
theorem iter_step {X : Type} {enc : X → Value} {it r clock : Nat} {es : List En} {seen : Array Nat} {R : HP} {w : World} {nil : World → Prop} {body : En → X → World → Prop} {done : World → Prop}
    (h : Sat (iterP it r clock seen * R) w) (hm : ∀ w', Sat R w' → mapAt w' r .i64 es clock) (ok : MapOk es clock) (henc : ∀ e ∈ es, ∃ x, e.v = enc x)
    (yes : ∀ e ∈ es, e.b ∉ seen → ∀ x, e.v = enc x → ∀ w', Sat (iterP it r clock (seen.push e.b) * R) w' → body e x w')
    (no : (∀ e ∈ es, e.b ∈ seen) → ∀ w', Sat (iterP it r clock seen * R) w' → done w') : iterR enc ⟨it, 0, none⟩ w nil body done := by
  refine ⟨rfl, some r, clock, seen, clock, h.get, es, clock, hm w h.right, ?_, fun e he hs w1 hw1 => ?_, fun hall w1 hw1 => ?_⟩
  · cases es with
    | nil => exact .inr (.inl rfl)
    | cons e l => exact .inr (.inr ⟨e, by simp, ok.2.2 e (by simp)⟩)
  · have h1 : Sat (iterP it r clock seen * R) w1 := by
      rcases hw1 with e | e
      · exact e ▸ h
      · exact e ▸ h.drew
    have h2 := Sat.setObj h1 (.mapIter (some r) clock (seen.push e.b) clock)
    obtain ⟨x, hx⟩ := henc e he
    refine ⟨rfl, r, clock, seen.push e.b, clock, h2.get, es, hm _ h2.right, e, by simp, he, fun f hf hb => ?_, x, hx, yes e he hs x hx _ h2⟩
    have hn := ok.2.1
    clear h h1 h2 hm yes no henc hw1 hx
    induction es with
    | nil => simp at hf
    | cons g q ih =>
      simp only [List.map_cons, List.nodup_cons] at hn
      rcases List.mem_cons.1 hf with h1 | h1 <;> rcases List.mem_cons.1 he with h2 | h2
      · rw [h1, h2]
      · subst h1; exact absurd (hb ▸ List.mem_map_of_mem (f := En.b) h2) hn.1
      · subst h2; exact absurd (hb.symm ▸ List.mem_map_of_mem (f := En.b) h1) hn.1
      · exact ih ⟨(List.nodup_cons.1 ok.1).2, hn.2, fun e he => ok.2.2 e (by simp [he])⟩ h2 h1 hn.2
  · refine no (fun e he => hall e he (ok.2.2 e he)) w1 ?_
    rcases hw1 with e | e
    · exact e ▸ h
    · exact e ▸ h.drew
end Go.Sl
