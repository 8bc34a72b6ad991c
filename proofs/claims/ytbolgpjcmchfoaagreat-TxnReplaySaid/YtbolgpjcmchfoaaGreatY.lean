/- What every manager is that the rules make, as a whole: who is open, who waits, which times; kept by all the rules. -/
import Derived.Test.YtbolgpjcmchfoaaGreatQ
namespace Go.Mo
open Go Go.Sl
theorem lkp_del {α : Type} {l : List (Int × α)} (hn : (l.map Prod.fst).Nodup) (k j : Int) : lkp (del l k) j = if j = k then none else lkp l j := by
  induction l with
  | nil => simp [del, lkp]
  | cons p r ih =>
    obtain ⟨i, x⟩ := p
    simp only [List.map_cons, List.nodup_cons] at hn
    simp only [del]
    by_cases e : k = i
    · subst e
      rw [if_pos rfl]
      by_cases e2 : j = k
      · subst e2; rw [if_pos rfl]; exact lkp_none.2 hn.1
      · rw [if_neg e2]; simp [lkp, e2]
    · rw [if_neg e]
      simp only [lkp, ih hn.2]
      by_cases e2 : j = i
      · subst e2
        rw [if_pos rfl, if_neg (fun h => e h.symm), if_pos rfl]
      · rw [if_neg e2, if_neg e2]
theorem nodup_del {α : Type} {l : List (Int × α)} (hn : (l.map Prod.fst).Nodup) (k : Int) : ((del l k).map Prod.fst).Nodup := by
  rw [del_eq l hn k]
  exact hn.sublist (List.filter_sublist.map _)
theorem nodup_put {α : Type} {l : List (Int × α)} (hn : (l.map Prod.fst).Nodup) (k : Int) (v : α) : ((put l k v).map Prod.fst).Nodup := by
  rw [keys_put]
  split
  · exact hn
  · rename_i h
    rw [List.nodup_append]
    exact ⟨hn, by simp, fun a ha b hb => by simp only [List.mem_singleton] at hb; subst hb; exact fun e => h (e ▸ ha)⟩
theorem nodup_putsIn : ∀ (l : List Put) {d : List (Int × List UInt8)}, (d.map Prod.fst).Nodup → ((putsIn d l).map Prod.fst).Nodup
  | [], _, h => h
  | p :: r, d, h => nodup_putsIn r (nodup_put h p.lba p.data)
/-! ### Versions -/
def VOk (X : XMap) : Prop := (X.vers.map Prod.fst).Nodup ∧ ∀ q ∈ X.vers, (q.2.map Put.lba).Pairwise (· < ·) ∧ ∀ v ∈ q.2, v.lba ≤ X.last
theorem mem_put_iff {α : Type} {l : List (Int × α)} (hn : (l.map Prod.fst).Nodup) {k : Int} {v : α} {q : Int × α} (h : q ∈ put l k v) : q = (k, v) ∨ (q ∈ l ∧ q.1 ≠ k) := by
  have h1 := lkp_of_mem (nodup_put hn k v) (show (q.1, q.2) ∈ put l k v from h)
  rw [lkp_put] at h1
  by_cases e : q.1 = k
  · rw [if_pos e] at h1
    exact .inl (by cases q; simp only at e h1 ⊢; cases h1; subst e; rfl)
  · rw [if_neg e] at h1
    exact .inr ⟨lkp_mem h1, e⟩
theorem versOf_mem {l : List (Int × List Put)} {k : Int} {v : Put} (h : v ∈ versOf l k) : ∃ q ∈ l, q.1 = k ∧ v ∈ q.2 := by
  unfold versOf at h
  cases e : lkp l k with
  | none => rw [e] at h; simp at h
  | some y => rw [e] at h; exact ⟨(k, y), lkp_mem e, rfl, h⟩
theorem versOf_of {l : List (Int × List Put)} (hn : (l.map Prod.fst).Nodup) {q : Int × List Put} (h : q ∈ l) : versOf l q.1 = q.2 := by
  unfold versOf
  rw [lkp_of_mem hn (show (q.1, q.2) ∈ l from h)]; rfl
theorem foldl_vers {t : Int} : ∀ (l : List Put) (vs : List (Int × List Put)), (l.map Put.lba).Nodup → (vs.map Prod.fst).Nodup → (∀ q ∈ vs, (q.2.map Put.lba).Pairwise (· < ·) ∧ (∀ v ∈ q.2, v.lba ≤ t) ∧ (q.1 ∈ l.map Put.lba → ∀ v ∈ q.2, v.lba < t)) →
    ((l.foldl (addVer t) vs).map Prod.fst).Nodup ∧ ∀ q ∈ l.foldl (addVer t) vs, (q.2.map Put.lba).Pairwise (· < ·) ∧ ∀ v ∈ q.2, v.lba ≤ t
  | [], vs, _, hn, h => ⟨hn, fun q hq => ⟨(h q hq).1, (h q hq).2.1⟩⟩
  | x :: r, vs, hl, hn, h => by
    simp only [List.map_cons, List.nodup_cons] at hl
    refine foldl_vers r _ hl.2 (nodup_put hn _ _) fun q hq => ?_
    rcases mem_put_iff hn hq with e | ⟨e, hne⟩
    · subst e
      have hv : ∀ v ∈ versOf vs x.lba, v.lba < t := fun v hv => by
        obtain ⟨q, hq, hk, hv'⟩ := versOf_mem hv
        exact (h q hq).2.2 (by rw [hk]; simp) v hv'
      have hp : ((versOf vs x.lba).map Put.lba).Pairwise (· < ·) := by
        unfold versOf
        cases e : lkp vs x.lba with
        | none => simp
        | some y => exact (h _ (lkp_mem e)).1
      refine ⟨?_, fun v hv' => ?_, fun hm => absurd hm hl.1⟩
      · simp only [List.map_append, List.map_cons, List.map_nil]
        rw [List.pairwise_append]
        refine ⟨hp, by simp, fun a ha b hb => ?_⟩
        simp only [List.mem_singleton] at hb; subst hb
        obtain ⟨v, hv', rfl⟩ := List.mem_map.1 ha
        exact hv v hv'
      · rcases List.mem_append.1 hv' with e | e
        · have := hv v e; omega
        · simp only [List.mem_singleton] at e; subst e; simp
    · obtain ⟨a, b, c⟩ := h q e
      exact ⟨a, b, fun hm => c (by simp only [List.map_cons, List.mem_cons]; exact .inr hm)⟩
theorem rise_nodup {l : List Put} (h : riseM l = true) : (l.map Put.lba).Nodup := by
  unfold riseM at h
  simp only [decide_eq_true_eq] at h
  exact h.2.imp fun h => by omega
theorem vok_apply {X : XMap} (h : VOk X) (t : Tx) : VOk (X.apply t).1 ∧ ((X.apply t).1.last = X.last ∨ (X.apply t).1.last = t.time ∧ X.last < t.time) := by
  unfold XMap.apply
  split
  · exact ⟨h, .inl rfl⟩
  · rename_i ht
    split
    · exact ⟨h, .inl rfl⟩
    · rename_i hr
      split
      · exact ⟨h, .inl rfl⟩
      · split
        · exact ⟨h, .inl rfl⟩
        · refine ⟨foldl_vers t.puts X.vers (rise_nodup (by simpa using hr)) h.1 fun q hq => ?_, .inr ⟨rfl, by omega⟩⟩
          obtain ⟨a, b⟩ := h.2 q hq
          exact ⟨a, fun v hv => by have := b v hv; omega, fun _ v hv => by have := b v hv; omega⟩
theorem vok_prune {X : XMap} (h : VOk X) (t : Int) : VOk (X.prune t).1 := by
  refine ⟨by simp only [XMap.prune]; rw [keys_on2]; exact h.1, fun q hq => ?_⟩
  obtain ⟨x, hx, rfl⟩ := List.mem_map.1 hq
  obtain ⟨a, b⟩ := h.2 x hx
  simp only [pruned, XMap.prune]
  refine ⟨a.sublist ((List.drop_sublist _ _).map _), fun v hv => b v (List.mem_of_mem_drop hv)⟩
/-! ### The manager -/
def txOf (M : Mgr) (h : Int) : Tx :=
  match lkp M.all h with
  | some T => ⟨T.time, T.buf.puts⟩
  | none => ⟨0, []⟩
theorem txOf_some {M : Mgr} {h : Int} {T : Trn} (e : lkp M.all h = some T) : txOf M h = ⟨T.time, T.buf.puts⟩ := by unfold txOf; rw [e]
theorem txOf_congr {M N : Mgr} {h : Int} (e : lkp M.all h = lkp N.all h) : txOf M h = txOf N h := by unfold txOf; rw [e]
/-- Q: who waits. -/
structure Wf (Q : List Int) (M : Mgr) : Prop where
  hs : ∀ k, (lkp M.all k).isSome ↔ 1 ≤ k ∧ k ≤ M.book.last
  bl : 0 ≤ M.book.last
  kn : (M.book.times.map Prod.fst).Nodup
  tk : ∀ k v, lkp M.book.times k = some v ↔ ∃ T, lkp M.all k = some T ∧ (T.state = 1 ∨ T.state = 2) ∧ T.at_ = v
  st : ∀ k T, lkp M.all k = some T → T.state = 1 ∨ T.state = 2 ∨ T.state = 3 ∨ T.state = 4
  ta : ∀ k T, lkp M.all k = some T → T.at_ ≤ M.last
  bn : ∀ k T, lkp M.all k = some T → (T.buf.data.map Prod.fst).Nodup
  qn : Q.Nodup
  qs : ∀ k, k ∈ Q ↔ ∃ T, lkp M.all k = some T ∧ T.state = 2
  qb : ∀ k T, lkp M.all k = some T → T.state = 2 → T.buf.data ≠ []
  qt : Q.Pairwise fun i j => (txOf M i).time < (txOf M j).time
  ql : ∀ k ∈ Q, M.last < (txOf M k).time ∧ (txOf M k).time ≤ M.given
  vo : VOk M.m
  ml : M.m.last ≤ M.last
  lg : M.last ≤ M.given
  bs : M.base ≤ M.last
theorem wf_new {n last : Int} (h : 0 ≤ last) : Wf [] (Mgr.new n last) where
  hs k := by
    simp only [Mgr.new, lkp]
    exact ⟨fun h => (by cases h), fun h => by omega⟩
  bl := Int.le_refl _
  kn := by simp [Mgr.new]
  tk k v := by simp [Mgr.new, lkp]
  st k T h := by simp [Mgr.new, lkp] at h
  ta k T h := by simp [Mgr.new, lkp] at h
  bn k T h := by simp [Mgr.new, lkp] at h
  qn := by simp
  qs k := by simp [Mgr.new, lkp]
  qb k T h := by simp [Mgr.new, lkp] at h
  qt := by simp
  ql k h := by simp at h
  vo := ⟨by simp [Mgr.new], fun q hq => by simp [Mgr.new] at hq⟩
  ml := h
  lg := Int.le_refl _
  bs := Int.le_refl _
section
variable {Q : List Int} {M : Mgr}
theorem Wf.notQ (h : Wf Q M) {k : Int} {T : Trn} (hT : lkp M.all k = some T) (hs : T.state ≠ 2) : k ∉ Q := fun hk => by
  obtain ⟨T', h1, h2⟩ := (h.qs k).1 hk
  rw [hT] at h1; cases h1; exact hs h2
/-- A transaction changes, but neither its state nor its times. -/
theorem Wf.upd (h : Wf Q M) {i : Int} {T T' : Trn} (hT : lkp M.all i = some T) (e1 : T'.state = T.state) (e2 : T'.at_ = T.at_) (e3 : T'.time = T.time) (e4 : (T'.buf.data.map Prod.fst).Nodup) (e5 : T.state = 2 → T'.buf.data ≠ []) : Wf Q { M with all := put M.all i T' } := by
  have htx : ∀ k, (txOf { M with all := put M.all i T' } k).time = (txOf M k).time := fun k => by
    unfold txOf
    simp only [lkp_put]
    by_cases e : k = i
    · subst e; rw [if_pos rfl, hT]; exact e3
    · rw [if_neg e]
  have get : ∀ k S, lkp (put M.all i T') k = some S → (k = i ∧ S = T') ∨ (k ≠ i ∧ lkp M.all k = some S) := fun k S hS => by
    rw [lkp_put] at hS
    by_cases e : k = i
    · rw [if_pos e] at hS; cases hS; exact .inl ⟨e, rfl⟩
    · rw [if_neg e] at hS; exact .inr ⟨e, hS⟩
  exact
  { hs := fun k => by
      rw [← h.hs k, lkp_put]
      by_cases e : k = i
      · subst e; rw [if_pos rfl, hT]; simp
      · rw [if_neg e]
    bl := h.bl
    kn := h.kn
    tk := fun k v => by
      rw [h.tk k v]
      simp only [lkp_put]
      by_cases e : k = i
      · subst e
        rw [if_pos rfl, hT]
        simp only [Option.some.injEq]
        constructor
        · rintro ⟨S, rfl, a, b⟩; exact ⟨T', rfl, by rw [e1]; exact a, by rw [e2]; exact b⟩
        · rintro ⟨S, rfl, a, b⟩; exact ⟨T, rfl, by rw [← e1]; exact a, by rw [← e2]; exact b⟩
      · rw [if_neg e]
    st := fun k S hS => by
      rcases get k S hS with ⟨rfl, rfl⟩ | ⟨_, hS⟩
      · rw [e1]; exact h.st k T hT
      · exact h.st k S hS
    ta := fun k S hS => by
      rcases get k S hS with ⟨rfl, rfl⟩ | ⟨_, hS⟩
      · rw [e2]; exact h.ta k T hT
      · exact h.ta k S hS
    bn := fun k S hS => by
      rcases get k S hS with ⟨rfl, rfl⟩ | ⟨_, hS⟩
      · exact e4
      · exact h.bn k S hS
    qn := h.qn
    qs := fun k => by
      rw [h.qs k]
      simp only [lkp_put]
      by_cases e : k = i
      · subst e
        rw [if_pos rfl, hT]
        simp only [Option.some.injEq]
        constructor
        · rintro ⟨S, rfl, a⟩; exact ⟨T', rfl, by rw [e1]; exact a⟩
        · rintro ⟨S, rfl, a⟩; exact ⟨T, rfl, by rw [← e1]; exact a⟩
      · rw [if_neg e]
    qb := fun k S hS h2 => by
      rcases get k S hS with ⟨rfl, rfl⟩ | ⟨_, hS⟩
      · exact e5 (by rw [← e1]; exact h2)
      · exact h.qb k S hS h2
    qt := h.qt.imp fun hlt => by rw [htx, htx]; exact hlt
    ql := fun k hk => by rw [htx]; exact h.ql k hk
    vo := h.vo
    ml := h.ml
    lg := h.lg
    bs := h.bs }
theorem sub_all {a b : List Int} (h : a.Sublist b) (hn : b.Nodup) (hm : ∀ k ∈ b, k ∈ a) : a = b := by
  induction h with
  | slnil => rfl
  | cons x hs ih =>
    rw [List.nodup_cons] at hn
    exact absurd (hs.subset (hm x (by simp))) hn.1
  | cons_cons x hs ih =>
    rw [List.nodup_cons] at hn
    congr 1
    refine ih hn.2 fun k hk => ?_
    rcases List.mem_cons.1 (hm k (by simp [hk])) with e | e
    · subst e; exact absurd hk hn.1
    · exact e
/-- A transaction ends. -/
theorem Wf.end_ (h : Wf Q M) {i st code : Int} {Q' : List Int} (hst : st = 3 ∨ st = 4) (hq : ∀ k, k ∈ Q' ↔ k ∈ Q ∧ k ≠ i) (hsub : Q'.Sublist Q) : Wf Q' (M.end_ i st code) := by
  unfold Mgr.end_
  cases hT : lkp M.all i with
  | none =>
    have : Q' = Q := sub_all hsub h.qn fun k hk => (hq k).2 ⟨hk, fun e => by obtain ⟨T, h1, _⟩ := (h.qs k).1 hk; rw [e, hT] at h1; cases h1⟩
    rw [this]; exact h
  | some T =>
    simp only
    have hb : (M.book.close i).1.last = M.book.last ∧ ((M.book.close i).1.times.map Prod.fst).Nodup ∧ ∀ k, lkp (M.book.close i).1.times k = if k = i then none else lkp M.book.times k := by
      unfold Book.close
      cases e : lkp M.book.times i with
      | none =>
        refine ⟨rfl, h.kn, fun k => ?_⟩
        by_cases e2 : k = i
        · rw [if_pos e2, e2]; exact e
        · rw [if_neg e2]
      | some v => exact ⟨rfl, nodup_del h.kn i, fun k => lkp_del h.kn i k⟩
    obtain ⟨b1, b2, b3⟩ := hb
    have htx : ∀ k, k ≠ i → ∀ T' : Trn, txOf { M with all := put M.all i T', book := (M.book.close i).1 } k = txOf M k := fun k hk T' => by
      unfold txOf
      simp only [lkp_put, if_neg hk]
    have get : ∀ (T' : Trn) k S, lkp (put M.all i T') k = some S → (k = i ∧ S = T') ∨ (k ≠ i ∧ lkp M.all k = some S) := fun T' k S hS => by
      rw [lkp_put] at hS
      by_cases e : k = i
      · rw [if_pos e] at hS; cases hS; exact .inl ⟨e, rfl⟩
      · rw [if_neg e] at hS; exact .inr ⟨e, hS⟩
    exact
    { hs := fun k => by
        rw [b1, ← h.hs k, lkp_put]
        by_cases e : k = i
        · subst e; rw [if_pos rfl, hT]; simp
        · rw [if_neg e]
      bl := by rw [b1]; exact h.bl
      kn := b2
      tk := fun k v => by
        rw [b3 k]
        simp only [lkp_put]
        by_cases e : k = i
        · subst e
          rw [if_pos rfl, if_pos rfl]
          simp only [Option.some.injEq]
          constructor
          · intro h; cases h
          · rintro ⟨S, rfl, a, b⟩; simp only at a; omega
        · rw [if_neg e, if_neg e]; exact h.tk k v
      st := fun k S hS => by
        rcases get _ k S hS with ⟨rfl, rfl⟩ | ⟨_, hS⟩
        · simp only; omega
        · exact h.st k S hS
      ta := fun k S hS => by
        rcases get _ k S hS with ⟨rfl, rfl⟩ | ⟨_, hS⟩
        · exact h.ta k T hT
        · exact h.ta k S hS
      bn := fun k S hS => by
        rcases get _ k S hS with ⟨rfl, rfl⟩ | ⟨_, hS⟩
        · exact h.bn k T hT
        · exact h.bn k S hS
      qn := h.qn.sublist hsub
      qs := fun k => by
        rw [hq k, h.qs k]
        simp only [lkp_put]
        by_cases e : k = i
        · subst e
          rw [if_pos rfl]
          simp only [Option.some.injEq]
          constructor
          · rintro ⟨_, a⟩; exact absurd rfl a
          · rintro ⟨S, rfl, a⟩; simp only at a; omega
        · rw [if_neg e]
          exact ⟨fun a => a.1, fun a => ⟨a, e⟩⟩
      qb := fun k S hS h2 => by
        rcases get _ k S hS with ⟨rfl, rfl⟩ | ⟨_, hS⟩
        · simp only at h2; omega
        · exact h.qb k S hS h2
      qt := by
        have := h.qt.sublist hsub
        refine List.Pairwise.imp_of_mem (fun {a b} ha hb hlt => ?_) this
        rw [htx a ((hq a).1 ha).2, htx b ((hq b).1 hb).2]; exact hlt
      ql := fun k hk => by
        rw [htx k ((hq k).1 hk).2]; exact h.ql k ((hq k).1 hk).1
      vo := h.vo
      ml := h.ml
      lg := h.lg
      bs := h.bs }
theorem Wf.end_open (h : Wf Q M) {i st code : Int} {T : Trn} (hT : lkp M.all i = some T) (hs : T.state ≠ 2) (hst : st = 3 ∨ st = 4) : Wf Q (M.end_ i st code) :=
  h.end_ hst (fun k => ⟨fun hk => ⟨hk, fun e => h.notQ hT hs (e ▸ hk)⟩, fun hk => hk.1⟩) (List.Sublist.refl _)
/-- Time goes on: what was written is there from now on. -/
theorem Wf.bump (h : Wf Q M) {t : Tx} (hlt : M.last ≤ t.time) (hq : ∀ k ∈ Q, t.time < (txOf M k).time) (hg : t.time ≤ M.given) : Wf Q { M with m := (M.m.apply t).1, last := t.time } := by
  obtain ⟨v1, v2⟩ := vok_apply h.vo t
  have ml := h.ml
  exact
  { hs := h.hs
    bl := h.bl
    kn := h.kn
    tk := h.tk
    st := h.st
    ta := fun k T hT => Int.le_trans (h.ta k T hT) hlt
    bn := h.bn
    qn := h.qn
    qs := h.qs
    qb := h.qb
    qt := h.qt
    ql := fun k hk => ⟨hq k hk, (h.ql k hk).2⟩
    vo := v1
    ml := by simp only; omega
    lg := hg
    bs := Int.le_trans h.bs hlt }
theorem wf_begin (h : Wf Q M) : Wf Q M.begin.1 := by
  unfold Mgr.begin
  split
  · rename_i ho
    unfold Book.open at ho ⊢
    split at ho
    · simp at ho
    · rename_i h1
      split at ho
      · simp at ho
      · rename_i h2
        rw [if_neg h1, if_neg h2]
        have hnone : lkp M.all (M.book.last + 1) = none := by
          cases e : lkp M.all (M.book.last + 1) with
          | none => rfl
          | some T => have := (h.hs (M.book.last + 1)).1 (by rw [e]; rfl); omega
        have hbl := h.bl
        have hne : ∀ k ∈ Q, k ≠ M.book.last + 1 := fun k hk e => by
          obtain ⟨T, hT, _⟩ := (h.qs k).1 hk
          rw [e, hnone] at hT; cases hT
        have htx : ∀ k, k ≠ M.book.last + 1 → txOf { M with book := ⟨M.book.most, M.book.last + 1, put M.book.times (M.book.last + 1) M.last⟩, all := put M.all (M.book.last + 1) (freshT M) } k = txOf M k := fun k hk => by
          unfold txOf
          simp only [lkp_put, if_neg hk]
        have get : ∀ k S, lkp (put M.all (M.book.last + 1) (freshT M)) k = some S → (k = M.book.last + 1 ∧ S = freshT M) ∨ (k ≠ M.book.last + 1 ∧ lkp M.all k = some S) := fun k S hS => by
          rw [lkp_put] at hS
          by_cases e : k = M.book.last + 1
          · rw [if_pos e] at hS; cases hS; exact .inl ⟨e, rfl⟩
          · rw [if_neg e] at hS; exact .inr ⟨e, hS⟩
        exact
        { hs := fun k => by
            simp only [lkp_put]
            by_cases e : k = M.book.last + 1
            · rw [if_pos e]; simp; omega
            · rw [if_neg e, h.hs k]; omega
          bl := by simp only; omega
          kn := nodup_put h.kn _ _
          tk := fun k v => by
            simp only [lkp_put]
            by_cases e : k = M.book.last + 1
            · rw [if_pos e, if_pos e]
              simp only [Option.some.injEq]
              constructor
              · rintro rfl; exact ⟨freshT M, rfl, .inl rfl, rfl⟩
              · rintro ⟨S, rfl, _, b⟩; exact b
            · rw [if_neg e, if_neg e]; exact h.tk k v
          st := fun k S hS => by
            rcases get k S hS with ⟨_, rfl⟩ | ⟨_, hS⟩
            · exact .inl rfl
            · exact h.st k S hS
          ta := fun k S hS => by
            rcases get k S hS with ⟨_, rfl⟩ | ⟨_, hS⟩
            · exact Int.le_refl _
            · exact h.ta k S hS
          bn := fun k S hS => by
            rcases get k S hS with ⟨_, rfl⟩ | ⟨_, hS⟩
            · simp [freshT]
            · exact h.bn k S hS
          qn := h.qn
          qs := fun k => by
            rw [h.qs k]
            simp only [lkp_put]
            by_cases e : k = M.book.last + 1
            · rw [if_pos e, e, hnone]
              simp only [Option.some.injEq]
              constructor
              · rintro ⟨S, a, _⟩; cases a
              · rintro ⟨S, rfl, a⟩; simp [freshT] at a
            · rw [if_neg e]
          qb := fun k S hS h2 => by
            rcases get k S hS with ⟨_, rfl⟩ | ⟨_, hS⟩
            · simp [freshT] at h2
            · exact h.qb k S hS h2
          qt := List.Pairwise.imp_of_mem (fun {a b} ha hb hlt => by rw [htx a (hne a ha), htx b (hne b hb)]; exact hlt) h.qt
          ql := fun k hk => by rw [htx k (hne k hk)]; exact h.ql k hk
          vo := h.vo
          ml := h.ml
          lg := h.lg
          bs := h.bs }
  · exact h
theorem opn_of_lkp {M : Mgr} {i : Int} {T : Trn} (h : M.opn i = some T) : lkp M.all i = some T ∧ T.state = 1 := by
  unfold Mgr.opn at h
  cases e : lkp M.all i with
  | none => rw [e] at h; cases h
  | some S =>
    rw [e] at h
    simp only at h
    split at h
    · cases h; exact ⟨rfl, by assumption⟩
    · cases h
theorem buf_write_nodup {B : Buf} (h : (B.data.map Prod.fst).Nodup) (l : List Put) : ((B.write l).1.data.map Prod.fst).Nodup := by
  unfold Buf.write
  repeat' split
  all_goals first | exact h | exact nodup_putsIn l h
theorem wf_write (h : Wf Q M) (i : Int) (l : List Put) : Wf Q (M.write i l).1 := by
  unfold Mgr.write
  split
  · exact h
  · rename_i T hT
    obtain ⟨h1, h2⟩ := opn_of_lkp hT
    exact h.upd h1 rfl rfl rfl (buf_write_nodup (h.bn i T h1) l) fun h3 => by omega
theorem wf_read (h : Wf Q M) (i : Int) (e : Ext) : Wf Q (M.readE i e).1 := by
  unfold Mgr.readE
  split
  · exact h
  · rename_i T hT
    obtain ⟨h1, h2⟩ := opn_of_lkp hT
    exact h.upd h1 rfl rfl rfl (h.bn i T h1) fun h3 => by omega
theorem wf_abort (h : Wf Q M) (i : Int) : Wf Q (M.abort i).1 := by
  unfold Mgr.abort
  split
  · exact h
  · rename_i T hT
    obtain ⟨h1, h2⟩ := opn_of_lkp hT
    exact h.end_open h1 (by omega) (.inr rfl)
theorem wf_ro (h : Wf Q M) (b : Bool) : Wf Q { M with read := b } := { h with hs := h.hs }
theorem wf_batch (h : Wf Q M) : Wf Q M.batch.1 := by
  unfold Mgr.batch
  split
  · exact h
  · split
    · exact h
    · exact { h with hs := h.hs }
theorem wf_prune (h : Wf Q M) : Wf Q M.prune.1 := { h with hs := h.hs, vo := vok_prune h.vo _ }
theorem wf_commit (h : Wf M.queue M) (i : Int) : Wf (M.commit i).1.queue (M.commit i).1 := by
  unfold Mgr.commit
  split
  · exact h
  · rename_i T hT
    obtain ⟨h1, h2⟩ := opn_of_lkp hT
    have hn := h.notQ h1 (by omega)
    split
    · have hu : Wf M.queue ({ M with all := put M.all i { T with time := T.at_ } } : Mgr) := by
        have htx : ∀ k, k ≠ i → txOf ({ M with all := put M.all i { T with time := T.at_ } } : Mgr) k = txOf M k := fun k hk => by
          unfold txOf
          simp only [lkp_put, if_neg hk]
        have a := h.upd (T' := T) h1 rfl rfl rfl (h.bn i T h1) fun h3 => by omega
        have get : ∀ k S, lkp (put M.all i { T with time := T.at_ }) k = some S → (k = i ∧ S = { T with time := T.at_ }) ∨ (k ≠ i ∧ lkp M.all k = some S) := fun k S hS => by
          rw [lkp_put] at hS
          by_cases e : k = i
          · rw [if_pos e] at hS; cases hS; exact .inl ⟨e, rfl⟩
          · rw [if_neg e] at hS; exact .inr ⟨e, hS⟩
        exact
        { hs := fun k => by
            rw [← h.hs k, lkp_put]
            by_cases e : k = i
            · subst e; rw [if_pos rfl, h1]; simp
            · rw [if_neg e]
          bl := h.bl
          kn := h.kn
          tk := fun k v => by
            rw [h.tk k v]
            simp only [lkp_put]
            by_cases e : k = i
            · subst e
              rw [if_pos rfl, h1]
              simp only [Option.some.injEq]
              constructor
              · rintro ⟨S, rfl, a, b⟩; exact ⟨_, rfl, a, b⟩
              · rintro ⟨S, rfl, a, b⟩; exact ⟨T, rfl, a, b⟩
            · rw [if_neg e]
          st := fun k S hS => by
            rcases get k S hS with ⟨_, rfl⟩ | ⟨_, hS⟩
            · exact .inl h2
            · exact h.st k S hS
          ta := fun k S hS => by
            rcases get k S hS with ⟨rfl, rfl⟩ | ⟨_, hS⟩
            · exact h.ta k T h1
            · exact h.ta k S hS
          bn := fun k S hS => by
            rcases get k S hS with ⟨rfl, rfl⟩ | ⟨_, hS⟩
            · exact h.bn k T h1
            · exact h.bn k S hS
          qn := h.qn
          qs := fun k => by
            rw [h.qs k]
            simp only [lkp_put]
            by_cases e : k = i
            · subst e
              rw [if_pos rfl, h1]
              simp only [Option.some.injEq]
              constructor
              · rintro ⟨S, rfl, a⟩; exact ⟨_, rfl, a⟩
              · rintro ⟨S, rfl, a⟩; exact ⟨T, rfl, a⟩
            · rw [if_neg e]
          qb := fun k S hS h3 => by
            rcases get k S hS with ⟨rfl, rfl⟩ | ⟨_, hS⟩
            · simp only at h3; omega
            · exact h.qb k S hS h3
          qt := List.Pairwise.imp_of_mem (fun {a b} ha hb hlt => by rw [htx a (fun e => hn (e ▸ ha)), htx b (fun e => hn (e ▸ hb))]; exact hlt) h.qt
          ql := fun k hk => by rw [htx k (fun e => hn (e ▸ hk))]; exact h.ql k hk
          vo := h.vo
          ml := h.ml
          lg := h.lg
          bs := h.bs }
      have h3 : lkp ({ M with all := put M.all i { T with time := T.at_ } } : Mgr).all i = some { T with time := T.at_ } := by simp only [lkp_put]; simp
      have hq : (({ M with all := put M.all i { T with time := T.at_ } } : Mgr).end_ i 3 0).queue = M.queue := by unfold Mgr.end_; rw [h3]
      rw [hq]
      exact hu.end_open h3 (by simp only; omega) (.inl rfl)
    · rename_i hne
      split
      · have hq : (M.end_ i 4 (M.may T)).queue = M.queue := by unfold Mgr.end_; rw [h1]
        rw [hq]
        exact h.end_open h1 (by omega) (.inr rfl)
      · have lg := h.lg
        have htx : ∀ k, k ≠ i → txOf ({ M with given := M.given + 1, all := put M.all i { T with state := 2, time := M.given + 1 }, queue := M.queue ++ [i] } : Mgr) k = txOf M k := fun k hk => by
          unfold txOf
          simp only [lkp_put, if_neg hk]
        have htx' : (txOf ({ M with given := M.given + 1, all := put M.all i { T with state := 2, time := M.given + 1 }, queue := M.queue ++ [i] } : Mgr) i).time = M.given + 1 := by
          unfold txOf
          simp only [lkp_put, if_pos]
        have get : ∀ k S, lkp (put M.all i { T with state := 2, time := M.given + 1 }) k = some S → (k = i ∧ S = { T with state := 2, time := M.given + 1 }) ∨ (k ≠ i ∧ lkp M.all k = some S) := fun k S hS => by
          rw [lkp_put] at hS
          by_cases e : k = i
          · rw [if_pos e] at hS; cases hS; exact .inl ⟨e, rfl⟩
          · rw [if_neg e] at hS; exact .inr ⟨e, hS⟩
        have hdat : T.buf.data ≠ [] := fun e => hne (by rw [e]; rfl)
        exact
        { hs := fun k => by
            rw [← h.hs k, lkp_put]
            by_cases e : k = i
            · subst e; rw [if_pos rfl, h1]; simp
            · rw [if_neg e]
          bl := h.bl
          kn := h.kn
          tk := fun k v => by
            rw [h.tk k v]
            simp only [lkp_put]
            by_cases e : k = i
            · subst e
              rw [if_pos rfl, h1]
              simp only [Option.some.injEq]
              constructor
              · rintro ⟨S, rfl, a, b⟩; exact ⟨_, rfl, .inr rfl, b⟩
              · rintro ⟨S, rfl, a, b⟩; exact ⟨T, rfl, .inl h2, b⟩
            · rw [if_neg e]
          st := fun k S hS => by
            rcases get k S hS with ⟨_, rfl⟩ | ⟨_, hS⟩
            · exact .inr (.inl rfl)
            · exact h.st k S hS
          ta := fun k S hS => by
            rcases get k S hS with ⟨rfl, rfl⟩ | ⟨_, hS⟩
            · exact h.ta k T h1
            · exact h.ta k S hS
          bn := fun k S hS => by
            rcases get k S hS with ⟨rfl, rfl⟩ | ⟨_, hS⟩
            · exact h.bn k T h1
            · exact h.bn k S hS
          qn := by
            rw [List.nodup_append]
            exact ⟨h.qn, by simp, fun a ha b hb => by simp only [List.mem_singleton] at hb; subst hb; exact fun e => hn (e ▸ ha)⟩
          qs := fun k => by
            rw [List.mem_append, h.qs k, List.mem_singleton]
            simp only [lkp_put]
            by_cases e : k = i
            · subst e
              rw [if_pos rfl]
              exact ⟨fun _ => ⟨_, rfl, rfl⟩, fun _ => .inr rfl⟩
            · rw [if_neg e]
              exact ⟨fun a => a.resolve_right e, .inl⟩
          qb := fun k S hS h3 => by
            rcases get k S hS with ⟨rfl, rfl⟩ | ⟨_, hS⟩
            · exact hdat
            · exact h.qb k S hS h3
          qt := by
            rw [List.pairwise_append]
            refine ⟨List.Pairwise.imp_of_mem (fun {a b} ha hb hlt => by rw [htx a (fun e => hn (e ▸ ha)), htx b (fun e => hn (e ▸ hb))]; exact hlt) h.qt, by simp, fun a ha b hb => ?_⟩
            simp only [List.mem_singleton] at hb; subst hb
            rw [htx', htx a (fun e => hn (e ▸ ha))]
            have := (h.ql a ha).2
            omega
          ql := fun k hk => by
            rcases List.mem_append.1 hk with hk | hk
            · rw [htx k (fun e => hn (e ▸ hk))]
              have := h.ql k hk
              simp only; omega
            · simp only [List.mem_singleton] at hk; subst hk
              rw [htx']; simp only; omega
          vo := h.vo
          ml := h.ml
          lg := by simp only; omega
          bs := h.bs }
/-! ### A batch that is done -/
theorem end_all {M : Mgr} {i st code k : Int} (hk : k ≠ i) : lkp (M.end_ i st code).all k = lkp M.all k := by
  unfold Mgr.end_
  split
  · rfl
  · simp only [lkp_put, if_neg hk]
theorem end_parts (M : Mgr) (i st code : Int) : (M.end_ i st code).m = M.m ∧ (M.end_ i st code).last = M.last ∧ (M.end_ i st code).given = M.given := by
  unfold Mgr.end_; split <;> exact ⟨rfl, rfl, rfl⟩
theorem end_swap (M : Mgr) (X : XMap) (t i st code : Int) : ({ M with m := X, last := t } : Mgr).end_ i st code = { M.end_ i st code with m := X, last := t } := by
  unfold Mgr.end_
  simp only
  cases lkp M.all i <;> rfl
theorem Wf.one {h : Int} (hw : Wf (h :: Q) M) (code : Int) : Wf Q (doneOne code M (h, txOf M h)) ∧ ∀ k ∈ Q, lkp (doneOne code M (h, txOf M h)).all k = lkp M.all k := by
  have hn := hw.qn
  rw [List.nodup_cons] at hn
  have hq : ∀ k, k ∈ Q ↔ k ∈ h :: Q ∧ k ≠ h := fun k => ⟨fun hk => ⟨by simp [hk], fun e => hn.1 (e ▸ hk)⟩, fun hk => by
    rcases List.mem_cons.1 hk.1 with e | e
    · exact absurd e hk.2
    · exact e⟩
  unfold doneOne
  split
  · exact ⟨hw.end_ (.inr rfl) hq (List.sublist_cons_self _ _), fun k hk => end_all ((hq k).1 hk).2⟩
  · rw [end_swap]
    have h1 := hw.end_ (i := h) (st := 3) (code := 0) (.inl rfl) hq (List.sublist_cons_self _ _)
    obtain ⟨e1, e2, e3⟩ := end_parts M h 3 0
    have hl := hw.ql h (by simp)
    refine ⟨?_, fun k hk => end_all ((hq k).1 hk).2⟩
    have h2 := h1.bump (t := txOf M h) (by rw [e2]; omega) (fun k hk => ?_) (by rw [e3]; exact hl.2)
    · rw [e1] at h2; exact h2
    · rw [txOf_congr (end_all ((hq k).1 hk).2)]
      exact (List.pairwise_cons.1 hw.qt).1 k hk
theorem Wf.fold (code : Int) : ∀ (Q1 : List Int) {Q2 : List Int} {M : Mgr}, Wf (Q1 ++ Q2) M → Wf Q2 ((Q1.map fun h => (h, txOf M h)).foldl (doneOne code) M)
  | [], _, _, h => h
  | i :: r, Q2, M, h => by
    obtain ⟨h1, h2⟩ := Wf.one (Q := r ++ Q2) h code
    have h3 := Wf.fold code r h1
    have e : (r.map fun k => (k, txOf (doneOne code M (i, txOf M i)) k)) = r.map fun k => (k, txOf M k) :=
      List.map_congr_left fun k hk => by rw [txOf_congr (h2 k (by simp [hk]))]
    rw [e] at h3
    exact h3
theorem Wf.waiting (h : Wf M.queue M) : M.waiting = M.queue.map (txOf M) := by
  unfold Mgr.waiting
  have : ∀ k ∈ M.queue, ((lkp M.all k).map fun T => (⟨T.time, T.buf.puts⟩ : Tx)) = some (txOf M k) := fun k hk => by
    obtain ⟨T, hT, _⟩ := (h.qs k).1 hk
    rw [hT, txOf_some hT]; rfl
  generalize M.queue = l at this
  induction l with
  | nil => rfl
  | cons k r ih =>
    rw [List.filterMap_cons, this k (by simp)]
    simp only [List.map_cons]
    rw [ih fun j hj => this j (by simp [hj])]
theorem zip_map {α β : Type} (f : α → β) : ∀ l : List α, l.zip (l.map f) = l.map fun x => (x, f x)
  | [] => rfl
  | x :: r => by simp [zip_map f r]
theorem Wf.done_eq (h : Wf M.queue M) (code : Int) (ho : M.out ≠ 0) : M.done code =
    ({ ((M.queue.take M.out.toNat).map fun k => (k, txOf M k)).foldl (doneOne code) M with num := if code = 0 then M.num + 1 else M.num, queue := M.queue.drop M.out.toNat, out := 0 }, 0) := by
  unfold Mgr.done
  rw [if_neg ho, h.waiting, ← List.map_take, zip_map]
theorem wf_done (h : Wf M.queue M) (code : Int) : Wf (M.done code).1.queue (M.done code).1 := by
  by_cases ho : M.out = 0
  · unfold Mgr.done; rw [if_pos ho]; exact h
  · rw [h.done_eq code ho]
    have h1 : Wf (M.queue.take M.out.toNat ++ M.queue.drop M.out.toNat) M := by rw [List.take_append_drop]; exact h
    have h2 := Wf.fold code _ h1
    exact { h2 with hs := h2.hs }
end
end Go.Mo
