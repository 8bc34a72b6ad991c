/- Versions in one row, by their blocks and times: how the reference keeps them, and that it is the same. -/
import Derived.Test.YtbolgpjcmchfoaaGreatP
import Derived.Test.YtbolgpjcmchfoaaGreatY
namespace Go.Proofs.YtbolgpjcmchfoaaGreat
open Go Go.Sl Go.Mo
theorem sorted_unique {α : Type} {r : α → α → Prop} (irr : ∀ a, ¬ r a a) (asy : ∀ a b, r a b → ¬ r b a) : ∀ {a b : List α}, a.Pairwise r → b.Pairwise r → (∀ x, x ∈ a ↔ x ∈ b) → a = b
  | [], [], _, _, _ => rfl
  | [], y :: s, _, _, h => by have := (h y).2 (by simp); simp at this
  | x :: t, [], _, _, h => by have := (h x).1 (by simp); simp at this
  | x :: t, y :: s, ha, hb, h => by
    obtain ⟨a1, a2⟩ := List.pairwise_cons.1 ha
    obtain ⟨b1, b2⟩ := List.pairwise_cons.1 hb
    have e : x = y := by
      rcases List.mem_cons.1 ((h x).1 (by simp)) with p | p
      · exact p
      · rcases List.mem_cons.1 ((h y).2 (by simp)) with q | q
        · exact q.symm
        · exact absurd (b1 x p) (asy _ _ (a1 y q))
    subst e
    rw [sorted_unique irr asy a2 b2 fun z => ⟨fun hz => ?_, fun hz => ?_⟩]
    · rcases List.mem_cons.1 ((h z).1 (by simp [hz])) with p | p
      · subst p; exact absurd (a1 z hz) (irr z)
      · exact p
    · rcases List.mem_cons.1 ((h z).2 (by simp [hz])) with p | p
      · subst p; exact absurd (b1 z hz) (irr z)
      · exact p
theorem sortI_sorted (l : List Int) : (sortI l).Pairwise (· ≤ ·) := by
  have := List.pairwise_mergeSort (le := fun x y : Int => decide (x ≤ y)) (fun a b c => by simp; omega) (fun a b => by simp; omega) l
  simpa [sortI] using this
theorem sortI_lt {l : List Int} (h : l.Nodup) : (sortI l).Pairwise (· < ·) := by
  have h1 := sortI_sorted l
  have h2 : (sortI l).Nodup := (sortI_perm l).nodup_iff.2 h
  exact (h1.and h2).imp fun {a b} h => by have := h.1; have := h.2; omega
/-! ### Puts by rising blocks -/
theorem puts_sorted {d : List (Int × List UInt8)} (h : (d.map Prod.fst).Nodup) {a b : Int} : (Buf.puts ⟨a, b, d⟩).Pairwise fun x y => x.lba < y.lba := by
  unfold Buf.puts
  rw [List.pairwise_map]
  exact sortI_lt h
theorem mem_puts {d : List (Int × List UInt8)} {a b : Int} {p : Put} : p ∈ Buf.puts ⟨a, b, d⟩ ↔ lkp d p.lba = some p.data := by
  unfold Buf.puts
  rw [List.mem_map]
  constructor
  · rintro ⟨k, hk, rfl⟩
    have : k ∈ d.map Prod.fst := (sortI_perm _).mem_iff.1 hk
    cases e : lkp d k with
    | none => rw [lkp_none] at e; exact absurd this e
    | some v => simp [e]
  · intro h
    refine ⟨p.lba, (sortI_perm _).mem_iff.2 ?_, ?_⟩
    · exact List.mem_map.2 ⟨_, lkp_mem h, rfl⟩
    · rw [h]; rfl
theorem puts_unique {a b : List Put} (ha : a.Pairwise fun x y => x.lba < y.lba) (hb : b.Pairwise fun x y => x.lba < y.lba) (h : ∀ x, x ∈ a ↔ x ∈ b) : a = b :=
  sorted_unique (fun _ => by omega) (fun _ _ _ => by omega) ha hb h
def insP : List Put → Put → List Put
  | [], x => [x]
  | p :: r, x => if x.lba ≤ p.lba then x :: (if p.lba = x.lba then r else p :: r) else p :: insP r x
theorem mem_insP : ∀ {l : List Put} {x p : Put}, l.Pairwise (fun x y => x.lba < y.lba) → (p ∈ insP l x ↔ p = x ∨ p ∈ l ∧ p.lba ≠ x.lba)
  | [], x, p, _ => by simp [insP]
  | q :: r, x, p, h => by
    obtain ⟨a, b⟩ := List.pairwise_cons.1 h
    unfold insP
    split
    · split
      · rename_i h1 h2
        rw [List.mem_cons, List.mem_cons]
        constructor
        · rintro (e | e)
          · exact .inl e
          · exact .inr ⟨.inr e, by have := a p e; omega⟩
        · rintro (e | ⟨e | e, f⟩)
          · exact .inl e
          · subst e; exact absurd h2 f
          · exact .inr e
      · rename_i h1 h2
        rw [List.mem_cons]
        constructor
        · rintro (e | e)
          · exact .inl e
          · refine .inr ⟨e, ?_⟩
            rcases List.mem_cons.1 e with f | f
            · subst f; exact h2
            · have := a p f; omega
        · rintro (e | ⟨e, _⟩)
          · exact .inl e
          · exact .inr e
    · rename_i h1
      rw [List.mem_cons, List.mem_cons, mem_insP b]
      constructor
      · rintro (e | e | ⟨e, f⟩)
        · exact .inr ⟨.inl e, by subst e; omega⟩
        · exact .inl e
        · exact .inr ⟨.inr e, f⟩
      · rintro (e | ⟨e | e, f⟩)
        · exact .inr (.inl e)
        · exact .inl e
        · exact .inr (.inr ⟨e, f⟩)
theorem insP_sorted : ∀ {l : List Put} {x : Put}, l.Pairwise (fun x y => x.lba < y.lba) → (insP l x).Pairwise fun x y => x.lba < y.lba
  | [], x, _ => List.pairwise_singleton _ _
  | q :: r, x, h => by
    obtain ⟨a, b⟩ := List.pairwise_cons.1 h
    unfold insP
    split
    · split
      · rename_i h1 h2
        exact List.pairwise_cons.2 ⟨fun y hy => by have := a y hy; omega, b⟩
      · rename_i h1 h2
        refine List.pairwise_cons.2 ⟨fun y hy => ?_, h⟩
        rcases List.mem_cons.1 hy with e | e
        · subst e; omega
        · have := a y e; omega
    · rename_i h1
      refine List.pairwise_cons.2 ⟨fun y hy => ?_, insP_sorted b⟩
      rcases (mem_insP b).1 hy with e | ⟨e, _⟩
      · subst e; omega
      · exact a y e
theorem insP_length : ∀ (l : List Put) (x : Put), (insP l x).length ≤ l.length + 1
  | [], x => by simp [insP]
  | q :: r, x => by
    unfold insP
    split
    · split <;> simp
    · have := insP_length r x; simp; omega
theorem puts_put {d : List (Int × List UInt8)} (h : (d.map Prod.fst).Nodup) {a b k : Int} {v : List UInt8} : Buf.puts ⟨a, b, put d k v⟩ = insP (Buf.puts ⟨a, b, d⟩) ⟨k, v⟩ := by
  refine puts_unique (puts_sorted (nodup_put h k v)) (insP_sorted (puts_sorted h)) fun p => ?_
  rw [mem_puts, mem_insP (puts_sorted h), mem_puts, lkp_put]
  by_cases e : p.lba = k
  · rw [if_pos e]
    constructor
    · intro q; cases q; left; cases p; simp_all
    · rintro (q | ⟨_, q⟩)
      · subst q; rfl
      · exact absurd e q
  · rw [if_neg e]
    constructor
    · intro q; exact .inr ⟨q, e⟩
    · rintro (q | ⟨q, _⟩)
      · subst q; exact absurd rfl e
      · exact q
theorem puts_putsIn {a b : Int} : ∀ (l : List Put) {d : List (Int × List UInt8)}, (d.map Prod.fst).Nodup → Buf.puts ⟨a, b, putsIn d l⟩ = l.foldl insP (Buf.puts ⟨a, b, d⟩)
  | [], _, _ => rfl
  | x :: r, d, h => by
    have e : putsIn d (x :: r) = putsIn (put d x.lba x.data) r := rfl
    rw [e, puts_putsIn r (nodup_put h _ _), puts_put h]; rfl
/-! ### Versions -/
def flatV (X : XMap) : List (Int × Put) := (sortI (X.vers.map Prod.fst)).flatMap fun k => (versOf X.vers k).map fun v => (k, v)
def ltV (a b : Int × Put) : Prop := a.1 < b.1 ∨ a.1 = b.1 ∧ a.2.lba < b.2.lba
theorem ltV_unique {a b : List (Int × Put)} (ha : a.Pairwise ltV) (hb : b.Pairwise ltV) (h : ∀ x, x ∈ a ↔ x ∈ b) : a = b :=
  sorted_unique (fun _ h => by unfold ltV at h; omega) (fun _ _ h h' => by unfold ltV at h h'; omega) ha hb h
theorem vers_sorted {X : XMap} (h : VOk X) (k : Int) : ((versOf X.vers k).map Put.lba).Pairwise (· < ·) ∧ ∀ v ∈ versOf X.vers k, v.lba ≤ X.last := by
  unfold versOf
  cases e : lkp X.vers k with
  | none => exact ⟨List.Pairwise.nil, fun v hv => by simp at hv⟩
  | some l => exact h.2 _ (lkp_mem e)
theorem flatV_sorted {X : XMap} (h : VOk X) : (flatV X).Pairwise ltV := by
  unfold flatV
  rw [List.pairwise_flatMap]
  refine ⟨fun k _ => ?_, (sortI_lt h.1).imp fun {a b} hab x hx y hy => ?_⟩
  · rw [List.pairwise_map]
    have := (vers_sorted h k).1
    rw [List.pairwise_map] at this
    exact this.imp fun {a b} h => .inr ⟨rfl, h⟩
  · obtain ⟨u, _, rfl⟩ := List.mem_map.1 hx
    obtain ⟨v, _, rfl⟩ := List.mem_map.1 hy
    exact .inl hab
theorem mem_flatV {X : XMap} {x : Int × Put} : x ∈ flatV X ↔ x.2 ∈ versOf X.vers x.1 := by
  unfold flatV
  rw [List.mem_flatMap]
  constructor
  · rintro ⟨k, _, hx⟩
    obtain ⟨v, hv, rfl⟩ := List.mem_map.1 hx
    exact hv
  · intro h
    refine ⟨x.1, (sortI_perm _).mem_iff.2 ?_, List.mem_map.2 ⟨x.2, h, rfl⟩⟩
    unfold versOf at h
    cases e : lkp X.vers x.1 with
    | none => rw [e] at h; simp at h
    | some l => exact List.mem_map.2 ⟨_, lkp_mem e, rfl⟩
theorem versOf_fold {t : Int} (k : Int) : ∀ (ps : List Put) (vs : List (Int × List Put)), versOf (ps.foldl (addVer t) vs) k = versOf vs k ++ (ps.filter fun p => decide (p.lba = k)).map fun p => ⟨t, p.data⟩
  | [], vs => by simp
  | x :: r, vs => by
    rw [List.foldl_cons, versOf_fold k r]
    have e : versOf (addVer t vs x) k = if k = x.lba then versOf vs x.lba ++ [⟨t, x.data⟩] else versOf vs k := by
      unfold addVer
      show (lkp (put vs x.lba _) k).getD [] = _
      rw [lkp_put]
      split
      · rfl
      · rfl
    rw [e]
    by_cases q : k = x.lba
    · subst q; simp
    · rw [if_neg q]
      have : decide (x.lba = k) = false := by simp; omega
      simp [this]
def mergeV (t : Int) : List (Int × Put) → List Put → List (Int × Put)
  | [], ps => ps.map fun p => (p.lba, ⟨t, p.data⟩)
  | v :: r, ps => ((ps.takeWhile fun p => decide (p.lba < v.1)).map fun p => (p.lba, ⟨t, p.data⟩)) ++ v :: mergeV t r (ps.dropWhile fun p => decide (p.lba < v.1))
theorem mem_mergeV {t : Int} {x : Int × Put} : ∀ (L : List (Int × Put)) (ps : List Put), x ∈ mergeV t L ps ↔ x ∈ L ∨ ∃ p ∈ ps, x = (p.lba, ⟨t, p.data⟩)
  | [], ps => by simp [mergeV, eq_comm]
  | v :: r, ps => by
    unfold mergeV
    rw [List.mem_append, List.mem_cons, mem_mergeV r, List.mem_cons, List.mem_map]
    have e : ∀ p, p ∈ ps ↔ p ∈ ps.takeWhile (fun p => decide (p.lba < v.1)) ∨ p ∈ ps.dropWhile (fun p => decide (p.lba < v.1)) := fun p => by
      rw [← List.mem_append, List.takeWhile_append_dropWhile]
    constructor
    · rintro (⟨p, hp, rfl⟩ | h | h | ⟨p, hp, h⟩)
      · exact .inr ⟨p, (e p).2 (.inl hp), rfl⟩
      · exact .inl (.inl h)
      · exact .inl (.inr h)
      · exact .inr ⟨p, (e p).2 (.inr hp), h⟩
    · rintro ((h | h) | ⟨p, hp, h⟩)
      · exact .inr (.inl h)
      · exact .inr (.inr (.inl h))
      · rcases (e p).1 hp with q | q
        · exact .inl ⟨p, q, h.symm⟩
        · exact .inr (.inr (.inr ⟨p, q, h⟩))
theorem drop_ge {k : Int} : ∀ {ps : List Put}, (ps.map Put.lba).Pairwise (· < ·) → ∀ p ∈ ps.dropWhile (fun p => decide (p.lba < k)), k ≤ p.lba
  | [], _, p, hp => by simp at hp
  | q :: r, h, p, hp => by
    rw [List.map_cons, List.pairwise_cons] at h
    rw [List.dropWhile_cons] at hp
    split at hp
    · exact drop_ge h.2 p hp
    · rename_i hn
      simp only [decide_eq_true_eq] at hn
      rcases List.mem_cons.1 hp with e | e
      · subst e; omega
      · have := h.1 p.lba (List.mem_map_of_mem e); omega
theorem mergeV_sorted {t : Int} : ∀ {L : List (Int × Put)} {ps : List Put}, L.Pairwise ltV → (ps.map Put.lba).Pairwise (· < ·) → (∀ v ∈ L, v.2.lba < t) → (mergeV t L ps).Pairwise ltV
  | [], ps, _, hp, _ => by
    unfold mergeV
    rw [List.pairwise_map] at hp ⊢
    exact hp.imp fun {a b} h => .inl h
  | v :: r, ps, hL, hp, ht => by
    obtain ⟨a, b⟩ := List.pairwise_cons.1 hL
    have hd : ps.takeWhile (fun p => decide (p.lba < v.1)) ++ ps.dropWhile (fun p => decide (p.lba < v.1)) = ps := List.takeWhile_append_dropWhile
    have hge := drop_ge (k := v.1) hp
    have hp' := hp
    rw [← hd, List.map_append, List.pairwise_append] at hp'
    obtain ⟨p1, p2, p3⟩ := hp'
    have hlt : ∀ p ∈ ps.takeWhile (fun p => decide (p.lba < v.1)), p.lba < v.1 := fun p hp => by
      have := List.all_takeWhile (p := fun p : Put => decide (p.lba < v.1)) (l := ps)
      simpa using List.all_eq_true.1 this p hp
    unfold mergeV
    rw [List.pairwise_append]
    refine ⟨?_, List.pairwise_cons.2 ⟨fun x hx => ?_, mergeV_sorted b p2 fun w hw => ht w (by simp [hw])⟩, fun x hx y hy => ?_⟩
    · rw [List.pairwise_map] at p1 ⊢
      exact p1.imp fun {a b} h => .inl h
    · rcases (mem_mergeV r _).1 hx with h | ⟨p, hp, rfl⟩
      · exact a x h
      · have := hge p hp
        have := ht v (by simp)
        unfold ltV; simp only; omega
    · obtain ⟨p, hp, rfl⟩ := List.mem_map.1 hx
      have h1 := hlt p hp
      rcases List.mem_cons.1 hy with e | e
      · subst e; exact .inl h1
      · rcases (mem_mergeV r _).1 e with h | ⟨q, hq, rfl⟩
        · have := a y h
          unfold ltV at this ⊢; simp only; omega
        · exact .inl (p3 _ (List.mem_map_of_mem hp) _ (List.mem_map_of_mem hq))
theorem flatV_apply {X : XMap} {t : Tx} (h : VOk X) (h0 : (X.apply t).2 = 0) : flatV (X.apply t).1 = mergeV t.time (flatV X) t.puts ∧ X.last < t.time ∧ (t.puts.map Put.lba).Pairwise (· < ·) := by
  have hv := (vok_apply h t).1
  unfold XMap.apply at h0 hv ⊢
  split at h0
  · simp at h0
  · split at h0
    · simp at h0
    · split at h0
      · simp at h0
      · split at h0
        · simp at h0
        · rename_i a b c d
          have hr : (t.puts.map Put.lba).Pairwise (· < ·) := by
            have : riseM t.puts = true := by simpa using b
            unfold riseM at this
            exact (of_decide_eq_true this).2
          rw [if_neg a, if_neg b, if_neg c, if_neg d] at hv ⊢
          have hlt : X.last < t.time := by omega
          refine ⟨ltV_unique (flatV_sorted hv) (mergeV_sorted (flatV_sorted h) hr fun v hv => ?_) fun x => ?_, hlt, hr⟩
          · have := (vers_sorted h v.1).2 _ (mem_flatV.1 hv); omega
          · rw [mem_mergeV, mem_flatV, mem_flatV]
            simp only
            rw [versOf_fold, List.mem_append, List.mem_map]
            constructor
            · rintro (q | ⟨p, hp, q⟩)
              · exact .inl q
              · rw [List.mem_filter] at hp
                exact .inr ⟨p, hp.1, by have := of_decide_eq_true hp.2; cases x; simp_all⟩
            · rintro (q | ⟨p, hp, rfl⟩)
              · exact .inl q
              · exact .inr ⟨p, List.mem_filter.2 ⟨hp, by simp⟩, rfl⟩
def pruneR (h : Int) : List (Int × Put) → List (Int × Put)
  | [] => []
  | [v] => [v]
  | v :: u :: r => if u.1 = v.1 ∧ u.2.lba ≤ h then pruneR h (u :: r) else v :: pruneR h (u :: r)
theorem pruneR_sub (h : Int) : ∀ L : List (Int × Put), (pruneR h L).Sublist L
  | [] => List.Sublist.refl _
  | [v] => List.Sublist.refl _
  | v :: u :: r => by
    unfold pruneR
    split
    · exact (pruneR_sub h (u :: r)).cons _
    · exact (pruneR_sub h (u :: r)).cons_cons _
theorem mem_pruneR {h : Int} {x : Int × Put} : ∀ {L : List (Int × Put)}, L.Pairwise ltV → (x ∈ pruneR h L ↔ x ∈ L ∧ ∀ u ∈ L, u.1 = x.1 → x.2.lba < u.2.lba → h < u.2.lba)
  | [], _ => by simp [pruneR]
  | [v], _ => by
    simp only [pruneR, List.mem_singleton]
    constructor
    · rintro rfl; exact ⟨rfl, fun u hu _ h => by subst hu; omega⟩
    · exact fun h => h.1
  | v :: u :: r, hL => by
    obtain ⟨a, b⟩ := List.pairwise_cons.1 hL
    obtain ⟨c, _⟩ := List.pairwise_cons.1 b
    have ih := mem_pruneR (h := h) (x := x) b
    have hvu := a u (by simp)
    unfold ltV at hvu
    have hx : ∀ y ∈ u :: r, ¬ (v.1 = y.1 ∧ y.2.lba < v.2.lba) := fun y hy q => by
      have := a y hy; unfold ltV at this; omega
    unfold pruneR
    split
    · rename_i hc
      rw [ih, List.mem_cons (a := x) (b := v)]
      constructor
      · rintro ⟨p, q⟩
        refine ⟨.inr p, fun y hy e1 e2 => ?_⟩
        rcases List.mem_cons.1 hy with e | e
        · subst e; exact absurd ⟨e1, e2⟩ (hx x p)
        · exact q y e e1 e2
      · rintro ⟨p | p, q⟩
        · subst p
          have := q u (by simp) hc.1 (by omega)
          omega
        · exact ⟨p, fun y hy => q y (by simp [List.mem_cons.1 hy])⟩
    · rename_i hc
      rw [List.mem_cons, ih, List.mem_cons (a := x) (b := v)]
      constructor
      · rintro (p | ⟨p, q⟩)
        · subst p
          refine ⟨.inl rfl, fun y hy e1 e2 => ?_⟩
          rcases List.mem_cons.1 hy with e | e
          · subst e; omega
          · rcases List.mem_cons.1 e with f | f
            · subst f; omega
            · have h1 := a y e
              have h2 := c y f
              unfold ltV at h1 h2; omega
        · refine ⟨.inr p, fun y hy e1 e2 => ?_⟩
          rcases List.mem_cons.1 hy with e | e
          · subst e; exact absurd ⟨e1, e2⟩ (hx x p)
          · exact q y e e1 e2
      · rintro ⟨p | p, q⟩
        · exact .inl p
        · exact .inr ⟨p, fun y hy => q y (by simp [List.mem_cons.1 hy])⟩
/-! ### Versions of one block -/
theorem split_le {l : List Put} (h : (l.map Put.lba).Pairwise (· < ·)) (t : Int) : ∃ a b, l = a ++ b ∧ (∀ x ∈ a, x.lba ≤ t) ∧ ∀ x ∈ b, t < x.lba := by
  induction l with
  | nil => exact ⟨[], [], rfl, fun _ h => by simp at h, fun _ h => by simp at h⟩
  | cons x r ih =>
    rw [List.map_cons, List.pairwise_cons] at h
    by_cases q : x.lba ≤ t
    · obtain ⟨a, b, e, h1, h2⟩ := ih h.2
      refine ⟨x :: a, b, by rw [e]; rfl, fun y hy => ?_, h2⟩
      rcases List.mem_cons.1 hy with p | p
      · subst p; exact q
      · exact h1 y p
    · refine ⟨[], x :: r, rfl, fun _ h => by simp at h, fun y hy => ?_⟩
      rcases List.mem_cons.1 hy with p | p
      · subst p; omega
      · have := h.1 y.lba (List.mem_map_of_mem p); omega
theorem upTo_split {a b : List Put} {t : Int} (h1 : ∀ x ∈ a, x.lba ≤ t) (h2 : ∀ x ∈ b, t < x.lba) : upTo (a ++ b) t = a.reverse := by
  unfold upTo
  rw [List.reverse_append]
  have e : ∀ (c d : List Put), (∀ x ∈ c, t < x.lba) → (∀ x ∈ d, x.lba ≤ t) → (c ++ d).dropWhile (fun v => decide (t < v.lba)) = d := by
    intro c
    induction c with
    | nil =>
      intro d _ hd
      cases d with
      | nil => rfl
      | cons y r =>
        rw [List.nil_append, List.dropWhile_cons, if_neg]
        have := hd y (by simp)
        simp; omega
    | cons x c ih =>
      intro d hc hd
      rw [List.cons_append, List.dropWhile_cons, if_pos (by have := hc x (by simp); simpa using this)]
      exact ih d (fun y hy => hc y (by simp [hy])) hd
  exact e _ _ (fun x hx => h2 x (List.mem_reverse.1 hx)) fun x hx => h1 x (List.mem_reverse.1 hx)
theorem mem_pruned {l : List Put} (h : (l.map Put.lba).Pairwise (· < ·)) {t : Int} {v : Put} : v ∈ pruned t l ↔ v ∈ l ∧ ∀ u ∈ l, v.lba < u.lba → t < u.lba := by
  obtain ⟨a, b, rfl, h1, h2⟩ := split_le h t
  unfold pruned
  rw [upTo_split h1 h2, List.length_reverse]
  rcases List.eq_nil_or_concat a with rfl | ⟨a', z, rfl⟩
  · simp only [List.length_nil, Nat.zero_sub, List.drop_zero, List.nil_append]
    exact ⟨fun hv => ⟨hv, fun u hu _ => h2 u hu⟩, fun hv => hv.1⟩
  · have e : (a' ++ [z] ++ b).drop ((a' ++ [z]).length - 1) = z :: b := by simp
    rw [List.concat_eq_append] at *
    rw [e]
    have hs : ∀ x ∈ a', x.lba < z.lba := by
      rw [List.map_append, List.map_append, List.pairwise_append] at h
      have := (List.pairwise_append.1 h.1).2.2
      intro x hx
      exact this _ (List.mem_map_of_mem hx) _ (by simp)
    have hz := h1 z (by simp)
    constructor
    · intro hv
      refine ⟨by simp only [List.mem_append, List.mem_cons] at hv ⊢; rcases hv with e | e <;> simp [e], fun u hu hlt => ?_⟩
      rcases List.mem_append.1 hu with p | p
      · rcases List.mem_append.1 p with q | q
        · have := hs u q
          rcases List.mem_cons.1 hv with e | e
          · subst e; omega
          · have := h2 v e; omega
        · obtain rfl : u = z := by simpa using q
          rcases List.mem_cons.1 hv with e | e
          · subst e; omega
          · have := h2 v e; omega
      · exact h2 u p
    · rintro ⟨hv, hall⟩
      rcases List.mem_append.1 hv with p | p
      · rcases List.mem_append.1 p with q | q
        · have := hall z (by simp) (hs v q); omega
        · obtain rfl : v = z := by simpa using q
          simp
      · simp [p]
theorem flatV_prune {X : XMap} (h : VOk X) (t : Int) : flatV (X.prune t).1 = pruneR t (flatV X) := by
  refine ltV_unique (flatV_sorted (vok_prune h t)) ((flatV_sorted h).sublist (pruneR_sub t _)) fun x => ?_
  rw [mem_pruneR (flatV_sorted h), mem_flatV, mem_flatV]
  have e : versOf (X.prune t).1.vers x.1 = pruned t (versOf X.vers x.1) := versOf_on2 (f := pruned t) (by simp [pruned]) _
  rw [e, mem_pruned (vers_sorted h x.1).1]
  constructor
  · rintro ⟨a, b⟩
    refine ⟨a, fun u hu e hlt => b u.2 ?_ hlt⟩
    have := mem_flatV.1 hu
    rw [e] at this; exact this
  · rintro ⟨a, b⟩
    exact ⟨a, fun u hu hlt => b (x.1, u) (mem_flatV.2 hu) rfl hlt⟩
theorem flatV_length {X : XMap} (h : VOk X) : ((flatV X).length : Int) = X.versions := by
  unfold flatV XMap.versions
  rw [List.length_flatMap]
  congr 1
  have e : (X.vers.map Prod.fst).map (fun k => ((versOf X.vers k).map fun v => (k, v)).length) = X.vers.map fun q => q.2.length := by
    rw [List.map_map]
    refine List.map_congr_left fun q hq => ?_
    simp only [Function.comp_apply, List.length_map]
    rw [versOf_of h.1 hq]
  rw [← e]
  exact ((sortI_perm _).map _).sum_nat
theorem prune_count {X : XMap} (h : VOk X) (t : Int) : ((flatV X).length : Int) = (pruneR t (flatV X)).length + (X.prune t).2 := by
  rw [flatV_length h, ← flatV_prune h t, flatV_length (vok_prune h t)]
  simp only [XMap.versions, XMap.prune]
  rw [← Int.natCast_add]
  congr 1
  have : ∀ vs : List (Int × List Put), (vs.map fun q => q.2.length).sum = ((on2 (pruned t) vs).map fun q => q.2.length).sum + (vs.map fun q => (upTo q.2 t).length - 1).sum := by
    intro vs
    induction vs with
    | nil => rfl
    | cons q r ih =>
      have := upTo_length_le q.2 t
      simp only [on2, List.map_cons, List.sum_cons, pruned, List.length_drop] at ih ⊢
      omega
  exact this X.vers
def getR (L : List (Int × Put)) (k t : Int) : List UInt8 × Int :=
  match (L.filter fun v => decide (v.1 = k) && decide (v.2.lba ≤ t)).getLast? with
  | some v => (v.2.data, v.2.lba)
  | none => (zeros, 0)
theorem getR_snoc (L : List (Int × Put)) (v : Int × Put) (k t : Int) : getR (L ++ [v]) k t = if v.1 = k ∧ v.2.lba ≤ t then (v.2.data, v.2.lba) else getR L k t := by
  unfold getR
  rw [List.filter_append]
  by_cases h : v.1 = k ∧ v.2.lba ≤ t
  · rw [if_pos h]
    simp [h.1, h.2]
  · rw [if_neg h]
    have : (decide (v.1 = k) && decide (v.2.lba ≤ t)) = false := by
      simp only [Bool.and_eq_false_iff, decide_eq_false_iff_not]
      by_cases q : v.1 = k
      · right; intro p; exact h ⟨q, p⟩
      · left; exact q
    simp [this]
theorem getR_flatV {X : XMap} (h : VOk X) (k t : Int) : getR (flatV X) k t = (X.get k t, timeAt (versOf X.vers k) t) := by
  obtain ⟨hs, _⟩ := vers_sorted h k
  obtain ⟨a, b, e, h1, h2⟩ := split_le hs t
  have hf : (flatV X).filter (fun v => decide (v.1 = k) && decide (v.2.lba ≤ t)) = a.map fun v => (k, v) := by
    have ha : (a.map Put.lba).Pairwise (· < ·) := by
      rw [e, List.map_append, List.pairwise_append] at hs
      exact hs.1
    refine ltV_unique ((flatV_sorted h).sublist List.filter_sublist) ?_ fun x => ?_
    · rw [List.pairwise_map] at ha ⊢
      exact ha.imp fun {a b} h => .inr ⟨rfl, h⟩
    · rw [List.mem_filter, mem_flatV, List.mem_map]
      simp only [Bool.and_eq_true, decide_eq_true_eq]
      constructor
      · rintro ⟨p, q, r⟩
        rw [q, e] at p
        rcases List.mem_append.1 p with p | p
        · exact ⟨x.2, p, by cases x; simp_all⟩
        · have := h2 _ p; omega
      · rintro ⟨v, hv, rfl⟩
        exact ⟨by rw [e]; simp [hv], rfl, h1 v hv⟩
  unfold getR XMap.get valAt timeAt
  rw [hf, e, upTo_split h1 h2, List.getLast?_map]
  rcases List.eq_nil_or_concat a with rfl | ⟨a', z, rfl⟩
  · rfl
  · simp
end Go.Proofs.YtbolgpjcmchfoaaGreat
