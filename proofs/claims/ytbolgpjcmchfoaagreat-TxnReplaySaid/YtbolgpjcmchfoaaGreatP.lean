/- What sets of extents cover; when a transaction conflicts, in terms of blocks: plain. -/
import Derived.Test.YtbolgpjcmchfoaaGreatW
namespace Go.Mo
open Go Go.Sl
def cov (l : List Ext) (k : Int) : Prop := ∃ x ∈ l, x.first ≤ k ∧ k < x.first + x.len
theorem cov_nil {k : Int} : ¬ cov [] k := fun ⟨_, h, _⟩ => by simp at h
theorem cov_append {l m : List Ext} {k : Int} : cov (l ++ m) k ↔ cov l k ∨ cov m k := by
  unfold cov
  constructor
  · rintro ⟨x, hx, h⟩
    rcases List.mem_append.1 hx with e | e
    · exact .inl ⟨x, e, h⟩
    · exact .inr ⟨x, e, h⟩
  · rintro (⟨x, hx, h⟩ | ⟨x, hx, h⟩)
    · exact ⟨x, List.mem_append.2 (.inl hx), h⟩
    · exact ⟨x, List.mem_append.2 (.inr hx), h⟩
theorem cov_cons {x : Ext} {l : List Ext} {k : Int} : cov (x :: l) k ↔ (x.first ≤ k ∧ k < x.first + x.len) ∨ cov l k := by
  unfold cov
  constructor
  · rintro ⟨y, hy, h⟩
    rcases List.mem_cons.1 hy with e | e
    · subst e; exact .inl h
    · exact .inr ⟨y, e, h⟩
  · rintro (h | ⟨y, hy, h⟩)
    · exact ⟨x, by simp, h⟩
    · exact ⟨y, by simp [hy], h⟩
theorem cov_one {x : Ext} {k : Int} : cov [x] k ↔ x.first ≤ k ∧ k < x.first + x.len := by rw [cov_cons]; simp [cov_nil]
theorem cov_perm {l m : List Ext} {k : Int} (h : l.Perm m) : cov l k ↔ cov m k := ⟨fun ⟨x, a, b⟩ => ⟨x, h.mem_iff.1 a, b⟩, fun ⟨x, a, b⟩ => ⟨x, h.mem_iff.2 a, b⟩⟩
theorem joinE_cov {acc : List Ext} {e : Ext} {k : Int} (h : ∀ x ∈ acc, x.first ≤ e.first) : cov (joinE acc e) k ↔ cov acc k ∨ (e.first ≤ k ∧ k < e.first + e.len) := by
  cases acc with
  | nil => simp only [joinE]; rw [cov_one]; simp [cov_nil]
  | cons x r =>
    have hx := h x (by simp)
    simp only [joinE]
    split
    · rw [cov_cons, cov_cons]; simp only
      constructor
      · rintro (a | a)
        · by_cases b : k < x.first + x.len
          · exact .inl (.inl ⟨a.1, b⟩)
          · exact .inr (by omega)
        · exact .inl (.inr a)
      · rintro ((a | a) | a)
        · exact .inl (by omega)
        · exact .inr a
        · exact .inl (by omega)
    · rw [cov_cons]
      constructor
      · rintro (a | a)
        · exact .inr a
        · exact .inl a
      · rintro (a | a)
        · exact .inr a
        · exact .inl a
theorem joinE_firsts {acc : List Ext} {e y : Ext} (h : ∀ x ∈ acc, x.first ≤ e.first) (hy : e.first ≤ y.first) : ∀ x ∈ joinE acc e, x.first ≤ y.first := by
  cases acc with
  | nil => simp only [joinE, List.mem_singleton, forall_eq]; exact hy
  | cons z r =>
    have hz := h z (by simp)
    simp only [joinE]
    split
    · intro x hx
      rcases List.mem_cons.1 hx with a | a
      · subst a; simp only; omega
      · have := h x (by simp [a]); omega
    · intro x hx
      rcases List.mem_cons.1 hx with a | a
      · subst a; exact hy
      · have := h x a; omega
theorem foldl_joinE_cov {k : Int} : ∀ (l acc : List Ext), l.Pairwise (fun x y => x.first ≤ y.first) → (∀ x ∈ acc, ∀ y ∈ l, x.first ≤ y.first) → (cov (l.foldl joinE acc) k ↔ cov acc k ∨ cov l k)
  | [], acc, _, _ => by simp [cov_nil]
  | e :: r, acc, hp, ha => by
    rw [List.pairwise_cons] at hp
    have h1 : ∀ x ∈ acc, x.first ≤ e.first := fun x hx => ha x hx e (by simp)
    rw [List.foldl_cons, foldl_joinE_cov r (joinE acc e) hp.2 fun x hx y hy => joinE_firsts h1 (hp.1 y hy) x hx, joinE_cov h1, cov_cons]
    constructor
    · rintro ((a | a) | a)
      · exact .inl a
      · exact .inr (.inl a)
      · exact .inr (.inr a)
    · rintro (a | a | a)
      · exact .inl (.inl a)
      · exact .inl (.inr a)
      · exact .inr a
theorem joinM_cov {l : List Ext} {k : Int} : cov (joinM l) k ↔ cov l k := by
  unfold joinM
  rw [cov_perm (List.reverse_perm _), foldl_joinE_cov _ _ (sortE_spec l).2 (by simp), cov_perm (sortE_spec l).1]
  simp [cov_nil]
/-- An extent as a set holds it. -/
def okX (e : Ext) : Prop := 0 ≤ e.first ∧ 1 ≤ e.len ∧ e.first + e.len ≤ 1048577
theorem may_okX {e : Ext} (h : may e = true) : okX e := by
  simp only [may, Bool.and_eq_true, decide_eq_true_eq] at h
  unfold okX; omega
theorem joinE_okX {acc : List Ext} {e : Ext} (ha : ∀ x ∈ acc, okX x) (he : okX e) : ∀ x ∈ joinE acc e, okX x := by
  cases acc with
  | nil => simpa [joinE] using he
  | cons z r =>
    have hz := ha z (by simp)
    simp only [joinE]
    unfold okX at *
    split
    · intro x hx
      rcases List.mem_cons.1 hx with a | a
      · subst a; simp only; omega
      · exact ha x (by simp [a])
    · intro x hx
      rcases List.mem_cons.1 hx with a | a
      · subst a; exact he
      · exact ha x a
theorem add_okX {S : XSet} {l : List Ext} (h : ∀ x ∈ S.l, okX x) : ∀ x ∈ (S.add l).1.l, okX x := by
  unfold XSet.add
  split
  · exact h
  · rename_i h1
    split
    · exact h
    · split
      · exact h
      · have hl : ∀ x ∈ S.l ++ l, okX x := fun x hx => by
          rcases List.mem_append.1 hx with a | a
          · exact h x a
          · have h2 : l.all may = true := by simpa using h1
            exact may_okX (List.all_eq_true.1 h2 x a)
        have key : ∀ (m acc : List Ext), (∀ x ∈ acc, okX x) → (∀ x ∈ m, okX x) → ∀ x ∈ m.foldl joinE acc, okX x := by
          intro m
          induction m with
          | nil => intro acc ha _; exact ha
          | cons y r ih => intro acc ha hm; exact ih _ (joinE_okX ha (hm y (by simp))) fun x hx => hm x (by simp [hx])
        intro x hx
        simp only [joinM, List.mem_reverse] at hx
        exact key _ [] (by simp) (fun x hx => hl x ((sortE_spec _).1.mem_iff.1 hx)) x hx
theorem has_cov {S : XSet} (ok : ∀ x ∈ S.l, okX x) (k : Int) : XSet.has S k = true ↔ cov S.l k := by
  unfold XSet.has
  rw [Bool.and_eq_true, List.any_eq_true]
  constructor
  · rintro ⟨_, x, hx, h⟩
    simp only [meet, Bool.and_eq_true, decide_eq_true_eq] at h
    exact ⟨x, hx, by omega⟩
  · rintro ⟨x, hx, h⟩
    have := ok x hx
    unfold okX at this
    refine ⟨by simp [may]; omega, x, hx, ?_⟩
    simp only [meet, Bool.and_eq_true, decide_eq_true_eq]; omega
/-- A block was written behind a time. -/
def wroteAt (M : XMap) (a k : Int) : Prop := ∃ v, (k, v) ∈ M.vers ∧ a < lastT v
def waitsAt (q : List Tx) (k : Int) : Prop := ∃ t ∈ q, ∃ p ∈ t.puts, p.lba = k
theorem written_iff {M : XMap} {e : Ext} {a : Int} (he : may e = true) : M.written e a = true ↔ ∃ k, (e.first ≤ k ∧ k < e.first + e.len) ∧ wroteAt M a k := by
  unfold XMap.written
  rw [he, Bool.true_and, List.any_eq_true]
  constructor
  · rintro ⟨q, hq, h⟩
    simp only [hitV, Bool.and_eq_true, decide_eq_true_eq] at h
    exact ⟨q.1, by omega, q.2, hq, h.2⟩
  · rintro ⟨k, h, v, hv, ha⟩
    refine ⟨(k, v), hv, ?_⟩
    simp only [hitV, Bool.and_eq_true, decide_eq_true_eq]
    omega
theorem hitX_iff {M : XMap} {x : Ext} {a : Int} (ok : okX x) : hitX M a x = true ↔ ∃ k, (x.first ≤ k ∧ k < x.first + x.len) ∧ wroteAt M a k := by
  unfold okX at ok
  unfold hitX
  rw [Bool.or_eq_true, written_iff (by simp only [may, Bool.and_eq_true, decide_eq_true_eq]; split <;> omega), written_iff (by simp [may]; omega)]
  constructor
  · rintro (⟨k, h, hw⟩ | ⟨k, h, hw⟩)
    · refine ⟨k, ?_, hw⟩
      simp only at h
      split at h <;> omega
    · exact ⟨k, by simp only at h; omega, hw⟩
  · rintro ⟨k, h, hw⟩
    by_cases hk : k = x.first + x.len - 1
    · exact .inr ⟨k, by simp only; omega, hw⟩
    · refine .inl ⟨k, ?_, hw⟩
      simp only
      split <;> omega
theorem hitS_iff {M : XMap} {q : List Tx} {a : Int} {S : XSet} (ok : ∀ x ∈ S.l, okX x) : hitS M q a S = true ↔ ∃ k, cov S.l k ∧ (wroteAt M a k ∨ waitsAt q k) := by
  unfold hitS
  rw [Bool.or_eq_true, List.any_eq_true, List.any_eq_true]
  constructor
  · rintro (⟨x, hx, h⟩ | ⟨t, ht, h⟩)
    · obtain ⟨k, hk, hw⟩ := (hitX_iff (ok x hx)).1 h
      exact ⟨k, ⟨x, hx, hk⟩, .inl hw⟩
    · unfold againstM at h
      obtain ⟨p, hp, h⟩ := List.any_eq_true.1 h
      exact ⟨p.lba, (has_cov ok _).1 h, .inr ⟨t, ht, p, hp, rfl⟩⟩
  · rintro ⟨k, ⟨x, hx, hk⟩, hw | ⟨t, ht, p, hp, rfl⟩⟩
    · exact .inl ⟨x, hx, (hitX_iff (ok x hx)).2 ⟨k, hk, hw⟩⟩
    · refine .inr ⟨t, ht, ?_⟩
      unfold againstM
      exact List.any_eq_true.2 ⟨p, hp, (has_cov ok _).2 ⟨x, hx, hk⟩⟩
theorem sumLen_pos {l : List Ext} (ok : ∀ x ∈ l, okX x) : 0 ≤ sumLen l ∧ (sumLen l = 0 ↔ l = []) := by
  induction l with
  | nil => simp [sumLen]
  | cons x r ih =>
    obtain ⟨h1, _⟩ := ih fun y hy => ok y (by simp [hy])
    have := ok x (by simp)
    unfold okX at this
    have e : sumLen (x :: r) = x.len + sumLen r := by simp [sumLen]
    rw [e]
    exact ⟨by omega, ⟨fun h => by omega, fun h => by simp at h⟩⟩
/-- What conflicts. -/
def clashes (M : XMap) (q : List Tx) (a : Int) (r s : List Ext) : Prop := s ≠ [] ∧ ∃ k, (cov r k ∨ cov s k) ∧ (wroteAt M a k ∨ waitsAt q k)
theorem valid_iff {M : XMap} {q : List Tx} {a : Int} {r s : XSet} (okr : ∀ x ∈ r.l, okX x) (oks : ∀ x ∈ s.l, okX x) : (clashes M q a r.l s.l → validM M q a r s = 8) ∧ (¬ clashes M q a r.l s.l → validM M q a r s = 0) := by
  unfold validM clashes
  by_cases hs : sumLen s.l = 0
  · have := (sumLen_pos oks).2.1 hs
    rw [if_pos hs]
    exact ⟨fun h => absurd this h.1, fun _ => rfl⟩
  · have hne : s.l ≠ [] := fun h => hs ((sumLen_pos oks).2.2 h)
    rw [if_neg hs]
    have key : (hitS M q a r || hitS M q a s) = true ↔ ∃ k, (cov r.l k ∨ cov s.l k) ∧ (wroteAt M a k ∨ waitsAt q k) := by
      rw [Bool.or_eq_true, hitS_iff okr, hitS_iff oks]
      constructor
      · rintro (⟨k, h, g⟩ | ⟨k, h, g⟩)
        · exact ⟨k, .inl h, g⟩
        · exact ⟨k, .inr h, g⟩
      · rintro ⟨k, h | h, g⟩
        · exact .inl ⟨k, h, g⟩
        · exact .inr ⟨k, h, g⟩
    refine ⟨fun h => if_pos (key.2 h.2), fun h => if_neg fun g => h ⟨hne, key.1 g⟩⟩
end Go.Mo
