/- The rules at transactions that write one block each and read none. -/
import Derived.Test.YtbolgpjcmchfoaaGreatLb
namespace Go.Proofs.YtbolgpjcmchfoaaGreat
open Go Go.Vc Go.Sl Go.Mo
theorem sortE_one (x : Ext) : sortE [x] = [x] := List.perm_singleton.1 (sortE_spec [x]).1
theorem joinM_one (x : Ext) : joinM [x] = [x] := by unfold joinM; rw [sortE_one]; rfl
theorem puts_one {B : Buf} {k : Int} {d : List UInt8} (h : B.data = [(k, d)]) : B.puts = [⟨k, d⟩] := by
  unfold Buf.puts
  rw [h]
  simp [sortI_one, lkp]
theorem bufSet_one {B : Buf} {k : Int} {d : List UInt8} (h : B.data = [(k, d)]) (hk : lbaOk k) : bufSet B = ⟨1, [⟨k, 1⟩]⟩ := by
  unfold bufSet
  rw [puts_one h]
  unfold lbaOk at hk
  have hm : may ⟨k, 1⟩ = true := by simp [may]; omega
  simp [XSet.add, hm, joinM_one]
theorem viewSet_none {V : View} (h : V.set.l = []) : viewSet V = ⟨64, []⟩ := by unfold viewSet XSet.add; rw [h]; simp
theorem against_none {t : Tx} {m : Int} : againstM t ⟨m, []⟩ = false := by
  unfold againstM
  rw [List.any_eq_false]
  intro x _
  simp [XSet.has]
theorem against_one {t : Tx} {m k j : Int} {d : List UInt8} (ht : t.puts = [⟨j, d⟩]) (hjk : j ≠ k) : againstM t ⟨m, [⟨k, 1⟩]⟩ = false := by
  unfold againstM
  rw [ht]
  simp only [List.any_cons, List.any_nil, Bool.or_false, XSet.has, meet]
  simp only [Bool.and_eq_false_iff, decide_eq_false_iff_not]
  omega
/-- Nothing is written; what waits writes other blocks: nothing conflicts. -/
theorem valid_apart {M : XMap} (h : M.vers = []) (q : List Tx) (a m n k : Int) (hq : ∀ t ∈ q, ∃ j d, t.puts = [⟨j, d⟩] ∧ j ≠ k) : validM M q a ⟨m, []⟩ ⟨n, [⟨k, 1⟩]⟩ = 0 := by
  unfold validM
  rw [hitS_nil h, hitS_nil h]
  have h1 : (q.any fun t => againstM t ⟨m, []⟩) = false := by rw [List.any_eq_false]; intro t _; simp [against_none]
  have h2 : (q.any fun t => againstM t ⟨n, [⟨k, 1⟩]⟩) = false := by
    rw [List.any_eq_false]
    intro t ht
    obtain ⟨j, d, hp, hne⟩ := hq t ht
    simp [against_one hp hne]
  rw [h1, h2]
  simp
/-- After i transactions, of which each wrote one block of its own. -/
structure Inv1 (B : Int) (i : Nat) (M : Mgr) : Prop where
  m : M.m = ⟨B, [], 0⟩
  read : M.read = false
  out : M.out = 0
  most : M.book.most = 16
  last : M.book.last = i
  keys : ∀ p ∈ M.book.times, 1 ≤ p.1 ∧ p.1 ≤ i
  len : M.book.times.length ≤ i
  all : ∀ q ∈ M.all, 1 ≤ q.1 ∧ q.1 ≤ i
  qlen : M.queue.length ≤ i
  q : ∀ h ∈ M.queue, ∃ T, lkp M.all h = some T ∧ ∃ j d, T.buf.data = [(j, d)] ∧ d.length = 40 ∧ 0 ≤ j ∧ j < i
theorem inv1_new (B last : Int) : Inv1 B 0 (Mgr.new B last) := ⟨rfl, rfl, rfl, rfl, rfl, by simp [Mgr.new], by simp [Mgr.new], by simp [Mgr.new], by simp [Mgr.new], by simp [Mgr.new]⟩
def one1 (M : Mgr) (i : Nat) (d : List UInt8) (st tm code : Int) : Trn := ⟨st, tm, code, M.last, ⟨M.m.blocks, 16, [((i : Int), d)]⟩, ⟨M.last, ⟨64, []⟩, []⟩⟩
theorem inv1_begin {B : Int} {i : Nat} {M : Mgr} (I : Inv1 B i M) (hi : i < 16) (hl : 0 ≤ M.last ∧ M.last ≤ 1099511627776) : M.begin = ({ M with book := ⟨16, i + 1, put M.book.times (i + 1) M.last⟩, all := put M.all (i + 1) (freshT M) }, ((i + 1 : Int), 0)) := by
  have ho : M.book.open M.last = (⟨16, i + 1, put M.book.times (i + 1) M.last⟩, ((i + 1 : Int), 0)) := by
    unfold Book.open
    have := I.len
    rw [if_neg (by omega), if_neg (by rw [I.most]; omega)]
    rw [I.last, I.most]
  unfold Mgr.begin
  rw [ho]
  simp
theorem hpp : ∀ (l : List (Int × Trn)) (k : Int) (a b : Trn), put (put l k a) k b = put l k b := by
  intro l k a b
  induction l with
  | nil => simp [put]
  | cons p r ih =>
    obtain ⟨j, x⟩ := p
    simp only [put]
    by_cases e : k = j
    · simp [e, put]
    · simp [e, put, ih]
theorem inv1_write {B : Int} {i : Nat} {M : Mgr} {d : List UInt8} (I : Inv1 B i M) (hiB : (i : Int) < B) (hd : d.length = 40) :
    Mgr.write { M with book := ⟨16, i + 1, put M.book.times (i + 1) M.last⟩, all := put M.all (i + 1) (freshT M) } (i + 1) [⟨i, d⟩] = ({ M with book := ⟨16, i + 1, put M.book.times (i + 1) M.last⟩, all := put M.all (i + 1) (one1 M i d 1 0 0) }, 0) := by
  have hop : Mgr.opn { M with book := ⟨16, i + 1, put M.book.times (i + 1) M.last⟩, all := put M.all (i + 1) (freshT M) } (i + 1) = some (freshT M) := by
    unfold Mgr.opn
    simp only [lkp_put_self]
    rfl
  have hw : (freshT M).buf.write [⟨i, d⟩] = (⟨M.m.blocks, 16, [((i : Int), d)]⟩, 0) := by
    have hb : M.m.blocks = B := by rw [I.m]
    have h1 : (outOf M.m.blocks ⟨i, d⟩) = false := by simp [outOf, hb]; omega
    simp [Buf.write, freshT, h1, badLen, hd, twiceM, newOnes, putsIn, put, lkp]
  unfold Mgr.write
  rw [hop]
  simp only [hw, hpp]
  rfl
/-- Behind a write: what is to be handed in. -/
abbrev mid1 (M : Mgr) (i : Nat) (d : List UInt8) : Mgr := { M with book := ⟨16, i + 1, put M.book.times (i + 1) M.last⟩, all := put M.all (i + 1) (one1 M i d 1 0 0) }
theorem mid1_lkp {B : Int} {i : Nat} {M : Mgr} {_d : List UInt8} (I : Inv1 B i M) (T : Trn) : ∀ h ∈ M.queue, h ≠ (i + 1 : Int) ∧ lkp (put M.all (i + 1) T) h = lkp M.all h := by
  intro h hh
  obtain ⟨T', hT, _⟩ := I.q h hh
  have := (I.all _ (lkp_mem hT)).2
  simp only at this
  refine ⟨by omega, ?_⟩
  rw [lkp_put, if_neg (by omega)]
theorem mid1_wait {B : Int} {i : Nat} {M : Mgr} {d : List UInt8} (I : Inv1 B i M) : ∀ t ∈ (mid1 M i d).waiting, ∃ j d, t.puts = [⟨j, d⟩] ∧ j ≠ (i : Int) := by
  intro t ht
  unfold Mgr.waiting at ht
  obtain ⟨h, hh, e⟩ := List.mem_filterMap.1 ht
  obtain ⟨_, h2⟩ := mid1_lkp (_d := d) I (one1 M i d 1 0 0) h hh
  obtain ⟨T, hT, j, d', hd, _, _, hj⟩ := I.q h hh
  simp only [h2, hT, Option.map_some, Option.some.injEq] at e
  rw [← e]
  exact ⟨j, d', puts_one hd, by omega⟩
theorem mid1_may {B : Int} {i : Nat} {M : Mgr} {d : List UInt8} (I : Inv1 B i M) (hi : lbaOk i) : (mid1 M i d).may (one1 M i d 1 0 0) = if 1099511627776 ≤ M.given then 11 else 0 := by
  have hv : validM (mid1 M i d).m (mid1 M i d).waiting (one1 M i d 1 0 0).at_ (viewSet (one1 M i d 1 0 0).view) (bufSet (one1 M i d 1 0 0).buf) = 0 := by
    rw [viewSet_none rfl, bufSet_one (k := i) (d := d) rfl hi]
    exact valid_apart (by show M.m.vers = []; rw [I.m]) _ _ _ _ _ (mid1_wait I)
  unfold Mgr.may
  rw [if_neg (by show ¬ M.read = true; rw [I.read]; simp), if_neg (by simpa using hv)]
theorem mid1_opn {i : Nat} {M : Mgr} {d : List UInt8} : (mid1 M i d).opn (i + 1) = some (one1 M i d 1 0 0) := by
  unfold Mgr.opn
  simp only [lkp_put_self]
  rfl
theorem inv1_commit {B : Int} {i : Nat} {M : Mgr} {d : List UInt8} (I : Inv1 B i M) (hi : lbaOk i) : (mid1 M i d).commit (i + 1) =
    if 1099511627776 ≤ M.given then ((mid1 M i d).end_ (i + 1) 4 11, 11) else ({ mid1 M i d with given := M.given + 1, all := put (mid1 M i d).all (i + 1) (one1 M i d 2 (M.given + 1) 0), queue := M.queue ++ [(i + 1 : Int)] }, 0) := by
  unfold Mgr.commit
  rw [mid1_opn]
  simp only []
  rw [if_neg (by simp [one1]), mid1_may I hi]
  by_cases hg : 1099511627776 ≤ M.given
  · simp [hg]
  · simp only [hg, if_false, ne_eq, not_true_eq_false]
    rfl
theorem keys_put1 {α : Type} {l : List (Int × α)} {i : Nat} (h : ∀ p ∈ l, 1 ≤ p.1 ∧ p.1 ≤ (i : Int)) (v : α) : ∀ p ∈ put l (i + 1) v, 1 ≤ p.1 ∧ p.1 ≤ ((i + 1 : Nat) : Int) := by
  intro p hp
  rcases mem_put hp with e | e
  · subst e; simp only; omega
  · have := h p e; omega
theorem inv1_next {B : Int} {i : Nat} {M : Mgr} {d : List UInt8} (I : Inv1 B i M) (hi : lbaOk i) (hd : d.length = 40) : Inv1 B (i + 1) ((mid1 M i d).commit (i + 1)).1 := by
  rw [inv1_commit I hi]
  have hlen := I.len
  have hq := I.qlen
  by_cases hg : 1099511627776 ≤ M.given
  · rw [if_pos hg]
    have he : (mid1 M i d).end_ (i + 1) 4 11 = { mid1 M i d with all := put (mid1 M i d).all (i + 1) (one1 M i d 4 0 11), book := ((mid1 M i d).book.close (i + 1)).1 } := by
      unfold Mgr.end_
      simp only [lkp_put_self]
      rfl
    have hcl : ((mid1 M i d).book.close (i + 1)).1 = ⟨16, i + 1, del (put M.book.times (i + 1) M.last) (i + 1)⟩ := by
      unfold Book.close
      simp only [lkp_put_self]
    rw [he, hcl]
    have hdel : (del (put M.book.times (i + 1 : Int) M.last) (i + 1)).Sublist (put M.book.times (i + 1) M.last) := by
      generalize put M.book.times (i + 1 : Int) M.last = l
      induction l with
      | nil => exact List.Sublist.refl _
      | cons p r ih =>
        simp only [del]; split
        · exact List.sublist_cons_self _ _
        · exact ih.cons_cons _
    refine ⟨I.m, I.read, I.out, rfl, by simp, fun p hp => ?_, ?_, ?_, by simp only; omega, fun h hh => ?_⟩
    · exact keys_put1 I.keys M.last p (hdel.subset hp)
    · have := hdel.length_le
      have := put_length_le M.book.times (i + 1 : Int) M.last
      simp only; omega
    · simp only [hpp]; exact keys_put1 I.all _
    · obtain ⟨_, h2⟩ := mid1_lkp (_d := d) I (one1 M i d 4 0 11) h hh
      obtain ⟨T, hT, j, d', a, b, c, e⟩ := I.q h hh
      exact ⟨T, by simp only [hpp]; rw [h2]; exact hT, j, d', a, b, c, by omega⟩
  · rw [if_neg hg]
    refine ⟨I.m, I.read, I.out, rfl, by simp, fun p hp => ?_, ?_, ?_, by simp; omega, fun h hh => ?_⟩
    · exact keys_put1 I.keys M.last p hp
    · have := put_length_le M.book.times (i + 1 : Int) M.last
      simp only; omega
    · simp only [hpp]; exact keys_put1 I.all _
    · rcases List.mem_append.1 hh with hh | hh
      · obtain ⟨_, h2⟩ := mid1_lkp (_d := d) I (one1 M i d 2 (M.given + 1) 0) h hh
        obtain ⟨T, hT, j, d', a, b, c, e⟩ := I.q h hh
        exact ⟨T, by simp only [hpp]; rw [h2]; exact hT, j, d', a, b, c, by omega⟩
      · simp only [List.mem_singleton] at hh
        subst hh
        exact ⟨one1 M i d 2 (M.given + 1) 0, lkp_put_self _ _ _, i, d, rfl, hd, by omega, by omega⟩
end Go.Proofs.YtbolgpjcmchfoaaGreat
