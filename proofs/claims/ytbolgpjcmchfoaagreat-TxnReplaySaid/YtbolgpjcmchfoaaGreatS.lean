/- What lies in memory, as a row of parts that are told by their places. -/
import Derived.Test.YtbolgpjcmchfoaaGreatW
namespace Go.Sl
open Go Go.Vc Go.Mo
/-! ### Shared memory that nobody writes any more -/
def Mono (F : Heap → Prop) : Prop := ∀ h g, le h g → F h → F g
def pool (F : Heap → Prop) : HP := F
theorem pool_get {F : Heap → Prop} {R : HP} {w : World} (hF : Mono F) (h : Sat (pool F * R) w) : F (hp w) := by
  obtain ⟨g, hg, hf⟩ := h.left
  exact hF _ _ hg hf
theorem pool_new {R : HP} {w0 w : World} (h : Sat (whole w0 * R) w) : Sat (pool (fun h => le (hp w0) h) * R) w := by
  refine Sat.imp_left h fun g hg b o hb => ?_
  rw [hg b]; exact hb
def leC (h g : Heap) : Prop := ∀ a v, cellH h a = some v → cellH g a = some v
theorem rowOn_leC {h g : Heap} (hg : leC h g) {s : SV} {vs : List Value} (hr : rowOn h s vs) : rowOn g s vs := ⟨hr.1, fun ad ha i hi => hg _ _ (hr.2 ad ha i hi)⟩
theorem bytesOn_leC {h g : Heap} (hg : leC h g) {s : SV} {l : List UInt8} (hl : bytesOn h s l) : bytesOn g s l := ⟨hl.1, rowOn_leC hg hl.2⟩
/-- What one owns is given to all. -/
theorem pool_take {A R : HP} {F : Heap → Prop} {w : World} (hF : Mono F) (h : Sat (A * (pool F * R)) w) : ∃ w1, Sat A w1 ∧ Mono (fun h => leC (hp w1) h ∧ F h) ∧ Sat (pool (fun h => leC (hp w1) h ∧ F h) * R) w := by
  obtain ⟨g, hg, g1, g23, hd, hu, ha, g2, g3, hd', hu', hf, hr⟩ := h
  have h1 : ∀ b o, g1 b = some o → w.heap[b]? = some o := fun b o hb => hg b o (by rw [hu b, hb]; rfl)
  refine ⟨{ w with heap := w.heap.mapIdx fun b o => match g1 b with | some _ => o | none => .cells #[] 0 (0, 0) }, ⟨g1, fun b o hb => ?_, ha⟩, fun h g hl hh => ⟨fun a v hv => cellH_le hl (hh.1 a v hv), hF _ _ hl hh.2⟩, g, hg, fun b => (g1 b).or (g2 b), g3, fun b => ?_, fun b => ?_, ⟨fun a v hv => ?_, hF g2 _ (fun b o hb => ?_) hf⟩, hr⟩
  · show (w.heap.mapIdx _)[b]? = some o
    rw [Array.getElem?_mapIdx, h1 b o hb, Option.map_some, hb]
  · have a1 := hd b
    have a2 := hd' b
    rw [hu' b] at a1
    cases e1 : g1 b <;> cases e2 : g2 b <;> cases e3 : g3 b <;> simp_all
  · dsimp only
    rw [hu b, hu' b]; cases g1 b <;> simp
  · have key : ∀ o, (w.heap.mapIdx fun b o => match g1 b with | some _ => o | none => .cells #[] 0 (0, 0))[a.block]? = some o → (∃ c t f, o = .cells c t f ∧ ∃ u, c[a.off]? = some u) → (g1 a.block).or (g2 a.block) = some o := fun o ho hc => by
      rw [Array.getElem?_mapIdx] at ho
      cases e : g1 a.block with
      | some o' =>
        rw [h1 _ _ e] at ho
        simp only [Option.map_some, e] at ho
        cases ho; rfl
      | none =>
        cases e2 : w.heap[a.block]? with
        | none => rw [e2] at ho; cases ho
        | some o2 =>
          rw [e2] at ho
          simp only [Option.map_some, e] at ho
          cases ho
          obtain ⟨c, t, f, hc, u, hu⟩ := hc
          cases hc
          simp at hu
    unfold cellH at hv ⊢
    dsimp only
    simp only [hp] at hv
    cases e : (w.heap.mapIdx fun b o => match g1 b with | some _ => o | none => .cells #[] 0 (0, 0))[a.block]? with
    | none => rw [e] at hv; cases hv
    | some o =>
      rw [e] at hv
      cases o with
      | cells c t f =>
        simp only at hv
        split at hv
        · cases hv
        · rename_i hs
          rw [key _ e ⟨c, t, f, rfl, v, hv⟩]
          simp only
          rw [if_neg hs]; exact hv
      | _ => cases hv
  · have a1 := hd b
    rw [hu' b, hb] at a1
    simp at a1
    simp [a1, hb]
/-! ### One cell of a row of one's own -/
theorem own_set1 {s : SV} {vs : List Value} {R : HP} {w : World} {i : Nat} (h : Sat (ownS 1 s vs * R) w) (hi : i < vs.length) : ∃ b, s.a = some ⟨b, 0, none⟩ ∧ ((∃ u, w.cell? ⟨b, i, none⟩ = some u) ∧ w.frozen? ⟨b, i, none⟩ = false) ∧ ∀ v, Sat (ownS 1 s (vs.set i v) * R) (w.setCell ⟨b, i, none⟩ v) := by
  have hsplit : vs = vs.take i ++ [vs[i]] ++ vs.drop (i + 1) := by rw [← List.take_succ_eq_append_getElem hi, List.take_append_drop]
  have hpl : (vs.take i).length = i := by rw [List.length_take]; omega
  have e0 : ∀ b, (⟨b, i, none⟩ : Addr).add 0 = ⟨b, i, none⟩ := fun b => by rw [add_mk]; rfl
  obtain ⟨b, hb, hc⟩ := ownS_cell h hi
  refine ⟨b, hb, ?_, fun v => ?_⟩
  · obtain ⟨b', hb', hst, _⟩ := ownS_store (news := [.int .i64 0]) h hsplit rfl (by simp)
    rw [hb] at hb'; cases hb'
    rw [hpl, storable_iff] at hst
    have h1 := hst 0 (by simp)
    simp only [Nat.add_zero, e0] at h1
    exact h1
  · obtain ⟨b', hb', _, hset⟩ := ownS_store (news := [v]) h hsplit rfl (by simp)
    rw [hb] at hb'; cases hb'
    rw [hpl] at hset
    simp only [storeAll, e0] at hset
    rw [List.set_eq_take_append_cons_drop, if_pos hi]
    simpa using hset
theorem all_at {α : Type} {A : α → HP} : ∀ (xs : List α) (j : Nat) (hj : j < xs.length), all xs A = A xs[j] * all (xs.eraseIdx j) A
  | x :: r, 0, _ => rfl
  | x :: r, j + 1, hj => by
    have ih := all_at (A := A) r j (by simpa using hj)
    simp only [all, List.getElem_cons_succ, List.eraseIdx_cons_succ]
    rw [ih]; ac_rfl
theorem all_set {α : Type} {A : α → HP} {y : α} : ∀ (xs : List α) (j : Nat) (_ : j < xs.length), all (xs.set j y) A = A y * all (xs.eraseIdx j) A
  | x :: r, 0, _ => rfl
  | x :: r, j + 1, hj => by
    have ih := all_set (A := A) (y := y) r j (by simpa using hj)
    simp only [List.set_cons_succ, all, List.eraseIdx_cons_succ]
    rw [ih]; ac_rfl
def bigS (l : List HP) : HP := l.foldr (· * ·) 1
def St (l : List HP) (w : World) : Prop := Sat (bigS l) w
section
variable {l : List HP} {w : World}
theorem big_cons (A : HP) (l : List HP) : bigS (A :: l) = A * bigS l := rfl
theorem big_erase : ∀ (l : List HP) (i : Nat) {A : HP}, l[i]? = some A → bigS l = A * bigS (l.eraseIdx i)
  | [], i, A, e => by simp at e
  | B :: l, 0, A, e => by simp at e; subst e; rfl
  | B :: l, i + 1, A, e => by
    simp only [List.getElem?_cons_succ] at e
    rw [List.eraseIdx_cons_succ, big_cons, big_cons, big_erase l i e]; ac_rfl
theorem big_set (l : List HP) (i : Nat) {A : HP} (h : i < l.length) : bigS (l.set i A) = A * bigS (l.eraseIdx i) := by
  have : (l.set i A)[i]? = some A := by simp [h]
  rw [big_erase _ i this]
  congr 2
  apply List.ext_getElem?
  intro j
  simp only [List.getElem?_eraseIdx, List.getElem?_set]
  split
  · rw [if_neg (by omega)]
  · rw [if_neg (by omega)]
theorem St.take (h : St l w) (i : Nat) {A : HP} (e : l[i]? = some A) : Sat (A * bigS (l.eraseIdx i)) w := by
  unfold St at h; rw [big_erase l i e] at h; exact h
theorem lt_of_get {α : Type} {l : List α} {i : Nat} {A : α} (e : l[i]? = some A) : i < l.length := by
  by_cases h : i < l.length
  · exact h
  · rw [List.getElem?_eq_none (by omega)] at e; cases e
theorem St.put {i : Nat} {A B : HP} {w' : World} (h : Sat (B * bigS (l.eraseIdx i)) w') (e : l[i]? = some A) : St (l.set i B) w' := by
  unfold St; rw [big_set l i (lt_of_get e)]; exact h
theorem St.drew (h : St l w) : St l w.drew := Sat.drew h
theorem St.keep {w' : World} (h : St l w) (k : Keep w w') : St l w' := k.sat h
theorem St.cons {A : HP} {R : HP} (h : Sat (A * R) w) (e : R = bigS l) : St (A :: l) w := by subst e; exact h
theorem St.add {A : HP} (h : Sat (A * bigS l) w) : St (A :: l) w := h
theorem St.of1 {A : HP} (h : Sat A w) : St [A] w := by unfold St bigS; simpa using h
theorem St.of2 {A B : HP} (h : Sat (A * B) w) : St [A, B] w := by unfold St bigS; simpa using h
theorem St.of3 {A B C : HP} (h : Sat (A * (B * C)) w) : St [A, B, C] w := by unfold St bigS; simpa using h
theorem St.to {A : HP} (h : St l w) (e : bigS l = A) : Sat A w := by subst e; exact h
theorem St.cut (h : St l w) (i : Nat) (hi : i < l.length) : St (l.eraseIdx i) w := (h.take i (List.getElem?_eq_getElem hi)).right
theorem St.to1 {A : HP} (h : St [A] w) : Sat A w := h.to (by simp [bigS])
theorem St.to2 {A B : HP} (h : St [A, B] w) : Sat (A * B) w := h.to (by simp [bigS])
theorem big_perm {l l' : List HP} (e : l.Perm l') : bigS l = bigS l' := by
  induction e with
  | nil => rfl
  | cons x _ ih => rw [big_cons, big_cons, ih]
  | swap x y l => simp only [big_cons]; ac_rfl
  | trans _ _ ih1 ih2 => rw [ih1, ih2]
theorem St.perm {l' : List HP} (h : St l w) (e : l.Perm l') : St l' w := by
  unfold St at h ⊢
  rw [← big_perm e]; exact h

/-! ### Cells -/
theorem st_c0 {b k : Nat} {vs : List Value} {v : Value} (h : St l w) (i : Nat) (e : l[i]? = some (objA (some ⟨b, 0, none⟩) vs)) (hv : vs[k]? = some v) : w.cell? ⟨b, k, none⟩ = some v := by
  rw [(objA_cells (h.take i e)).1 k]; exact hv
theorem st_c1 {b o k : Nat} {vs : List Value} {v : Value} (h : St l w) (i : Nat) (e : l[i]? = some (objA (some ⟨b, 0, none⟩) vs)) (hv : vs[o + k]? = some v) : w.cell? ((⟨b, o, none⟩ : Addr).add k) = some v := by
  rw [add_mk]; exact st_c0 h i e hv
theorem st_c2 {b o j k : Nat} {vs : List Value} {v : Value} (h : St l w) (i : Nat) (e : l[i]? = some (objA (some ⟨b, 0, none⟩) vs)) (hv : vs[o + j + k]? = some v) : w.cell? (((⟨b, o, none⟩ : Addr).add j).add k) = some v := by
  rw [add_mk, add_mk]; exact st_c0 h i e hv
theorem st_may {b k : Nat} {vs : List Value} (h : St l w) (i : Nat) (e : l[i]? = some (objA (some ⟨b, 0, none⟩) vs)) (hk : k < vs.length) : (∃ u, w.cell? ⟨b, k, none⟩ = some u) ∧ w.frozen? ⟨b, k, none⟩ = false :=
  ⟨⟨vs[k], st_c0 h i e (List.getElem?_eq_getElem hk)⟩, (objA_cells (h.take i e)).2 k⟩
theorem st_set {b k : Nat} {vs : List Value} (h : St l w) (i : Nat) (e : l[i]? = some (objA (some ⟨b, 0, none⟩) vs)) (v : Value) : St (l.set i (objA (some ⟨b, 0, none⟩) (vs.set k v))) (w.setCell ⟨b, k, none⟩ v) :=
  St.put (objA_set (h.take i e) k v) e
theorem st_s0 {b k : Nat} {vs : List Value} {v : Value} {K : World → Prop} (h : St l w) (i : Nat) (e : l[i]? = some (objA (some ⟨b, 0, none⟩) vs)) (hk : k < vs.length) (hK : ∀ w', St (l.set i (objA (some ⟨b, 0, none⟩) (vs.set k v))) w' → K w') :
    ((∃ u, w.cell? ⟨b, k, none⟩ = some u) ∧ w.frozen? ⟨b, k, none⟩ = false) ∧ (true = true) ∧ withW (w.setCell ⟨b, k, none⟩ v) K :=
  ⟨st_may h i e hk, rfl, hK _ (st_set h i e v)⟩
theorem st_s1 {b o k : Nat} {vs : List Value} {v : Value} {K : World → Prop} (h : St l w) (i : Nat) (e : l[i]? = some (objA (some ⟨b, 0, none⟩) vs)) (hk : o + k < vs.length) (hK : ∀ w', St (l.set i (objA (some ⟨b, 0, none⟩) (vs.set (o + k) v))) w' → K w') :
    ((∃ u, w.cell? ((⟨b, o, none⟩ : Addr).add k) = some u) ∧ w.frozen? ((⟨b, o, none⟩ : Addr).add k) = false) ∧ (true = true) ∧ withW (w.setCell ((⟨b, o, none⟩ : Addr).add k) v) K := by
  rw [add_mk]; exact st_s0 h i e hk hK
/-- A box of two is filled. -/
theorem st_s2 {b : Nat} {u0 u1 v0 v1 : Value} {K : World → Prop} (h : St l w) (i : Nat) (e : l[i]? = some (objA (some ⟨b, 0, none⟩) [u0, u1])) (hK : ∀ w', St (l.set i (objA (some ⟨b, 0, none⟩) [v0, v1])) w' → K w') :
    (((∃ u, w.cell? ⟨b, 0, none⟩ = some u) ∧ w.frozen? ⟨b, 0, none⟩ = false) ∧ ((∃ u, w.cell? ((⟨b, 0, none⟩ : Addr).add 1) = some u) ∧ w.frozen? ((⟨b, 0, none⟩ : Addr).add 1) = false)) ∧ (true = true) ∧
      withW ((w.setCell ⟨b, 0, none⟩ v0).setCell ((⟨b, 0, none⟩ : Addr).add 1) v1) K := by
  rw [add_mk]
  refine ⟨⟨st_may h i e (by simp), st_may h i e (by simp)⟩, rfl, hK _ ?_⟩
  have h1 := st_set (k := 0) h i e v0
  have h2 := st_set (k := 1) h1 i (List.getElem?_set_self (lt_of_get e)) v1
  rw [List.set_set] at h2
  simpa using h2
/-! ### New things -/
theorem St.snoc {A : HP} (h : Sat (A * bigS l) w) : St (l ++ [A]) w := St.perm (l := A :: l) h (List.perm_append_comm (l₁ := [A]))
theorem st_new {t : Nat} {vs : List Value} {K : World → Prop} (h : St l w) (hK : ∀ w', St (l ++ [objA (some ⟨w.heap.size, 0, none⟩) vs]) w' → K w') : withW (w.alloc (.cells vs.toArray t)) K :=
  hK _ (St.snoc (objA_new h))
theorem st_newF {t : Nat} {vs : List Value} {K : World → Prop} (h : St l w) (hK : ∀ w', St (objA (some ⟨w.heap.size, 0, none⟩) vs :: l) w' → K w') : withW (w.alloc (.cells vs.toArray t)) K :=
  hK _ (objA_new h)
theorem st_emptyF {t : Nat} {K : World → Prop} (sz : Nat) (h : St l w) (hK : ∀ w', St (ownS sz ⟨some ⟨w.heap.size, 0, none⟩, 0, 0⟩ [] :: l) w' → K w') : withW (w.alloc (.cells #[] t)) K :=
  hK _ (ownS_mk (sp := []) (h.alloc (.cells #[] t)) (by simp) (Nat.le_refl _) (by simp))
theorem st_nilF (sz : Nat) (h : St l w) : St (ownS sz ⟨none, 0, 0⟩ [] :: l) w := ownS_nil h rfl rfl
theorem st_drew {K : World → Prop} (h : St l w) (hK : ∀ w', St l w' → K w') : withW w.drew K := hK _ h.drew
/-! ### Rows of one's own -/
theorem st_own {sz : Nat} {s : SV} {vs : List Value} {k : Addr → Prop} (h : St l w) (i : Nat) (e : l[i]? = some (ownS sz s vs)) (h0 : 0 < vs.length) (hK : ∀ b, s.a = some ⟨b, 0, none⟩ → (∀ j v, vs[j]? = some v → w.cell? ⟨b, j, none⟩ = some v) → k ⟨b, 0, none⟩) : onP s.a k := by
  obtain ⟨b, hb, hc⟩ := ownS_cell (h.take i e) h0
  refine onP_i hb (hK b hb fun j v hj => ?_)
  have hlt := lt_of_get hj
  rw [hc j hlt, ← hj, List.getElem?_eq_getElem hlt]
theorem st_push {sz t bytes bx : Nat} {s : SV} {vs new z : List Value} {K : SV → World → Prop} (h : St l w) (i : Nat) (e : l[i]? = some (ownS sz s vs)) (j : Nat) (ej : l[j]? = some (objA (some ⟨bx, 0, none⟩) new)) (hn : new.length = sz) (ho : new.all one = true)
    (hcap : (s.n + 1) * bytes ≤ 2 ^ 44) (hby : 0 < bytes ∧ bytes ≤ 2 ^ 20) (hz : z.length = sz) (hK : ∀ s' w', s'.n = s.n + 1 → St (l.set i (ownS sz s' (vs ++ new))) w' → K s' w') : appendR s ⟨some ⟨bx, 0, none⟩, 1, 1⟩ sz bytes z t w K := by
  refine append_own (b := ⟨some ⟨bx, 0, none⟩, 1, 1⟩) (h.take i e) (by simp [hn]) ho (fun ad had => ?_) (fun e => by cases e) hcap hby hz fun s' w' h1 h2 => hK s' w' h1 (St.put h2 e)
  cases had
  rw [cellsAt_iff]
  intro q hq
  rw [add_mk, Nat.zero_add, Nat.zero_add]
  exact st_c0 h j ej (List.getElem?_eq_getElem hq)
theorem st_append {sz t bytes : Nat} {s b : SV} {vs news z : List Value} {K : SV → World → Prop} (h : St l w) (i : Nat) (e : l[i]? = some (ownS sz s vs)) (hr : rowOn (hp w) b news) (hl : news.length = b.n * sz) (h0 : 0 < sz) (ho : news.all one = true)
    (hcap : (s.n + b.n) * bytes ≤ 2 ^ 44) (hby : 0 < bytes ∧ bytes ≤ 2 ^ 20) (hz : z.length = sz) (hK : ∀ s' w', s'.n = s.n + b.n → St (l.set i (ownS sz s' (vs ++ news))) w' → K s' w') : appendR s b sz bytes z t w K := by
  refine append_own (h.take i e) hl ho (rowOn_cells hr) (fun e => ?_) hcap hby hz fun s' w' h1 h2 => hK s' w' h1 (St.put h2 ‹_›)
  have h1 := hr.1 e
  rw [h1] at hl
  rcases Nat.eq_zero_or_pos b.n with e0 | e0
  · exact e0
  · have := Nat.mul_pos e0 h0
    simp only [List.length_nil] at hl
    omega
theorem st_len {sz : Nat} {s : SV} {vs : List Value} (h : St l w) (i : Nat) (e : l[i]? = some (ownS sz s vs)) : vs.length = s.n * sz := ownS_length (h.take i e)
/-! ### What is given to all -/
theorem st_pool {F : Heap → Prop} (hF : Mono F) (h : St l w) (i : Nat) (e : l[i]? = some (pool F)) : F (hp w) := pool_get hF (h.take i e)
end
end Go.Sl
namespace Go.Proofs.YtbolgpjcmchfoaaGreat
open Go Go.Vc Go.Sl Go.Mo
def Known (F : Heap → Prop) (q : SV × List UInt8) : Prop := ∀ h, F h → bytesOn h q.1 q.2
theorem Known.more {F G : Heap → Prop} {q : SV × List UInt8} (h : Known F q) : Known (fun h => G h ∧ F h) q := fun g hg => h g hg.2
end Go.Proofs.YtbolgpjcmchfoaaGreat
