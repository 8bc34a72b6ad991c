/- Extents that rise and do not touch: there is one row of them for each set; the reference's way to put one in. -/
import Derived.Test.YtbolgpjcmchfoaaGreatP
namespace Go.Mo
open Go Go.Sl
def NF (l : List Ext) : Prop := l.Pairwise (fun x y => x.first + x.len < y.first) ∧ ∀ x ∈ l, 1 ≤ x.len
theorem NF.tail {x : Ext} {l : List Ext} (h : NF (x :: l)) : NF l := ⟨(List.pairwise_cons.1 h.1).2, fun y hy => h.2 y (by simp [hy])⟩
theorem NF.head {x : Ext} {l : List Ext} (h : NF (x :: l)) : 1 ≤ x.len ∧ ∀ k, cov l k → x.first + x.len < k :=
  ⟨h.2 x (by simp), fun k ⟨y, hy, h1, _⟩ => by have := (List.pairwise_cons.1 h.1).1 y hy; omega⟩
theorem nf_nil : NF [] := ⟨List.Pairwise.nil, fun _ h => by simp at h⟩
theorem nf_len {x y : Ext} {r s : List Ext} (e : x.first = y.first) (b1 : 1 ≤ y.len) (a2 : ∀ k, cov r k → x.first + x.len < k) (a1 : 1 ≤ x.len) (h : ∀ k, cov (x :: r) k ↔ cov (y :: s) k) : ¬ x.len < y.len := fun hlt => by
  rcases cov_cons.1 ((h (x.first + x.len)).2 (cov_cons.2 (.inl ⟨by omega, by omega⟩))) with q | q
  · omega
  · have := a2 _ q; omega
theorem nf_unique : ∀ {a b : List Ext}, NF a → NF b → (∀ k, cov a k ↔ cov b k) → a = b
  | [], [], _, _, _ => rfl
  | [], y :: s, _, hb, h => by
    have := (h y.first).2 (cov_cons.2 (.inl ⟨by omega, by have := hb.head.1; omega⟩))
    exact absurd this cov_nil
  | x :: r, [], ha, _, h => by
    have := (h x.first).1 (cov_cons.2 (.inl ⟨by omega, by have := ha.head.1; omega⟩))
    exact absurd this cov_nil
  | x :: r, y :: s, ha, hb, h => by
    obtain ⟨a1, a2⟩ := ha.head
    obtain ⟨b1, b2⟩ := hb.head
    have low : ∀ {x : Ext} {l : List Ext} {k : Int}, (∀ k, cov l k → x.first + x.len < k) → 1 ≤ x.len → cov (x :: l) k → x.first ≤ k := fun h1 h2 h3 => by
      rcases cov_cons.1 h3 with e | e
      · exact e.1
      · have := h1 _ e; omega
    have e1 : x.first = y.first := by
      have p := low b2 b1 ((h x.first).1 (cov_cons.2 (.inl ⟨by omega, by omega⟩)))
      have q := low a2 a1 ((h y.first).2 (cov_cons.2 (.inl ⟨by omega, by omega⟩)))
      omega
    have e2 : x.len = y.len := by
      have p := nf_len e1 b1 a2 a1 h
      have q := nf_len e1.symm a1 b2 b1 fun k => (h k).symm
      omega
    obtain rfl : x = y := by cases x; cases y; simp_all
    rw [nf_unique ha.tail hb.tail fun k => ⟨fun hk => ?_, fun hk => ?_⟩]
    · rcases cov_cons.1 ((h k).1 (cov_cons.2 (.inr hk))) with q | q
      · have := a2 _ hk; omega
      · exact q
    · rcases cov_cons.1 ((h k).2 (cov_cons.2 (.inr hk))) with q | q
      · have := b2 _ hk; omega
      · exact q
/-! ### The program's way -/
def RNF (l : List Ext) : Prop := l.Pairwise (fun x y => y.first + y.len < x.first) ∧ ∀ x ∈ l, 1 ≤ x.len
theorem joinE_rnf {acc : List Ext} {e : Ext} (h : RNF acc) (he : 1 ≤ e.len) (hf : ∀ x ∈ acc, x.first ≤ e.first) : RNF (joinE acc e) := by
  cases acc with
  | nil => exact ⟨List.pairwise_singleton _ _, fun x hx => by rw [List.mem_singleton.1 hx]; exact he⟩
  | cons x r =>
    obtain ⟨p, q⟩ := List.pairwise_cons.1 h.1
    simp only [joinE]
    split
    · refine ⟨List.pairwise_cons.2 ⟨p, q⟩, fun y hy => ?_⟩
      rcases List.mem_cons.1 hy with e | e
      · subst e
        have := h.2 x (by simp)
        simp only; omega
      · exact h.2 y (by simp [e])
    · rename_i hn
      refine ⟨List.pairwise_cons.2 ⟨fun y hy => ?_, h.1⟩, fun y hy => ?_⟩
      · rcases List.mem_cons.1 hy with e | e
        · subst e; omega
        · have := p y e
          have := hf x (by simp)
          omega
      · rcases List.mem_cons.1 hy with e | e
        · subst e; exact he
        · exact h.2 y (by simpa using e)
theorem foldl_joinE_rnf : ∀ (l acc : List Ext), l.Pairwise (fun x y => x.first ≤ y.first) → (∀ x ∈ acc, ∀ y ∈ l, x.first ≤ y.first) → (∀ x ∈ l, 1 ≤ x.len) → RNF acc → RNF (l.foldl joinE acc)
  | [], acc, _, _, _, h => h
  | e :: r, acc, hs, hf, hl, h => by
    obtain ⟨p, q⟩ := List.pairwise_cons.1 hs
    simp only [List.foldl_cons]
    refine foldl_joinE_rnf r _ q (fun x hx y hy => joinE_firsts (fun z hz => hf z hz e (by simp)) (p y hy) x hx) (fun x hx => hl x (by simp [hx])) (joinE_rnf h (hl e (by simp)) fun x hx => hf x hx e (by simp))
theorem joinM_nf {l : List Ext} (h : ∀ x ∈ l, 1 ≤ x.len) : NF (joinM l) := by
  obtain ⟨hp, hs⟩ := sortE_spec l
  obtain ⟨a, b⟩ := foldl_joinE_rnf (sortE l) [] hs (fun x hx => by simp at hx) (fun x hx => h x (hp.mem_iff.1 hx)) ⟨List.Pairwise.nil, fun x hx => by simp at hx⟩
  unfold joinM
  exact ⟨List.pairwise_reverse.2 a, fun x hx => b x (List.mem_reverse.1 hx)⟩
/-! ### The reference's way -/
def putR : List Ext → Int → Int → List Ext
  | [], f, e => [⟨f, e - f⟩]
  | x :: r, f, e => if x.first + x.len < f then x :: putR r f e else if e < x.first then ⟨f, e - f⟩ :: x :: r else putR r (min f x.first) (max e (x.first + x.len))
theorem putR_cov {k : Int} : ∀ (l : List Ext) (f e : Int), NF l → f < e → (cov (putR l f e) k ↔ cov l k ∨ (f ≤ k ∧ k < e))
  | [], f, e, _, h => by
    unfold putR
    rw [cov_one]
    simp only [cov_nil, false_or]
    omega
  | x :: r, f, e, hn, h => by
    unfold putR
    split
    · rw [cov_cons, cov_cons, putR_cov r f e hn.tail h]; simp only [or_assoc]
    · split
      · rw [cov_cons]; simp only; rw [or_comm]
        have : f + (e - f) = e := by omega
        rw [this]
      · rename_i h1 h2
        have hx := hn.head.1
        rw [putR_cov r _ _ hn.tail (by omega), cov_cons]
        constructor
        · rintro (h3 | h3)
          · exact .inl (.inr h3)
          · by_cases h4 : x.first ≤ k ∧ k < x.first + x.len
            · exact .inl (.inl h4)
            · exact .inr (by omega)
        · rintro ((h3 | h3) | h3)
          · exact .inr (by omega)
          · exact .inl h3
          · exact .inr (by omega)
theorem putR_nf : ∀ (l : List Ext) (f e : Int), NF l → f < e → NF (putR l f e) ∧ ∀ b : Int, b < f → (∀ x ∈ l, b < x.first) → ∀ x ∈ putR l f e, b < x.first
  | [], f, e, _, h => by
    unfold putR
    refine ⟨⟨List.pairwise_singleton _ _, fun x hx => ?_⟩, fun b hb _ x hx => ?_⟩
    · obtain rfl : x = ⟨f, e - f⟩ := by simpa using hx
      simp only; omega
    · obtain rfl : x = ⟨f, e - f⟩ := by simpa using hx
      exact hb
  | x :: r, f, e, hn, h => by
    have hp := (List.pairwise_cons.1 hn.1).1
    unfold putR
    split
    · rename_i h1
      obtain ⟨p, q⟩ := putR_nf r f e hn.tail h
      refine ⟨⟨List.pairwise_cons.2 ⟨fun y hy => q _ h1 hp y hy, p.1⟩, fun y hy => ?_⟩, fun b hb hl y hy => ?_⟩
      · rcases List.mem_cons.1 hy with e | e
        · subst e; exact hn.head.1
        · exact p.2 y e
      · rcases List.mem_cons.1 hy with e | e
        · subst e; exact hl _ (by simp)
        · exact q b hb (fun z hz => hl z (by simp [hz])) y e
    · split
      · rename_i h1 h2
        refine ⟨⟨List.pairwise_cons.2 ⟨fun y hy => ?_, hn.1⟩, fun y hy => ?_⟩, fun b hb hl y hy => ?_⟩
        · have : x.first ≤ y.first := by
            rcases List.mem_cons.1 hy with e | e
            · subst e; omega
            · have := hp y e; have := hn.head.1; omega
          simp only; omega
        · rcases List.mem_cons.1 hy with e | e
          · subst e; simp only; omega
          · exact hn.2 y e
        · rcases List.mem_cons.1 hy with e | e
          · subst e; exact hb
          · exact hl y e
      · rename_i h1 h2
        obtain ⟨p, q⟩ := putR_nf r (min f x.first) (max e (x.first + x.len)) hn.tail (by omega)
        refine ⟨p, fun b hb hl y hy => q b ?_ (fun z hz => hl z (by simp [hz])) y hy⟩
        have := hl x (by simp)
        omega
theorem putR_join {l : List Ext} {e : Ext} (h : NF l) (he : 1 ≤ e.len) : putR l e.first (e.first + e.len) = joinM (l ++ [e]) := by
  refine nf_unique (putR_nf l _ _ h (by omega)).1 (joinM_nf fun x hx => ?_) fun k => ?_
  · rcases List.mem_append.1 hx with q | q
    · exact h.2 x q
    · obtain rfl : x = e := by simpa using q
      exact he
  · rw [putR_cov l _ _ h (by omega), joinM_cov, cov_append, cov_one]
theorem join_nf {l : List Ext} (h : NF l) : joinM l = l := nf_unique (joinM_nf h.2) h fun _ => joinM_cov
theorem add_nf {S : XSet} {l : List Ext} (h : NF S.l) : NF (S.add l).1.l := by
  unfold XSet.add
  repeat' split
  all_goals first | exact h | skip
  rename_i a b c
  refine joinM_nf fun x hx => ?_
  rcases List.mem_append.1 hx with q | q
  · exact h.2 x q
  · have : l.all may = true := by simpa using a
    have := may_okX (List.all_eq_true.1 this x q)
    exact this.2.1
end Go.Mo
