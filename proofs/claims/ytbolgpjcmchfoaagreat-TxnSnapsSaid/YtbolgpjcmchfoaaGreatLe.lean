/- The rules at transactions that are begun alone: how many may be open (for the law 'TxnMany'). -/
import Derived.Test.YtbolgpjcmchfoaaGreatLa
import Derived.Test.YtbolgpjcmchfoaaGreatD
namespace Go.Proofs.YtbolgpjcmchfoaaGreat
open Go Go.Vc Go.Sl Go.Mo
def F0 : Trn := ⟨1, 0, 0, 0, ⟨5, 16, []⟩, ⟨0, ⟨64, []⟩, []⟩⟩
/-- So many were begun, nothing else was done. -/
structure Many (i : Nat) (M : Mgr) : Prop where
  m : M.m = ⟨5, [], 0⟩
  read : M.read = false
  out : M.out = 0
  queue : M.queue = []
  last : M.last = 0
  given : M.given = 0
  most : M.book.most = 16
  blast : M.book.last = (min i 16 : Nat)
  len : M.book.times.length = min i 16
  keys : ∀ p ∈ M.book.times, p.1 ≤ M.book.last
  t1 : 1 ≤ i → lkp M.book.times 1 = some 0
  a1 : 1 ≤ i → lkp M.all 1 = some F0
theorem many_new : Many 0 (Mgr.new 5 0) := ⟨rfl, rfl, rfl, rfl, rfl, rfl, rfl, rfl, rfl, by simp [Mgr.new], fun h => by omega, fun h => by omega⟩
theorem many_open {i : Nat} {M : Mgr} (I : Many i M) : M.begin.2 = if i < 16 then ((i : Int) + 1, 0) else (0, 6) := by
  have hl := I.len
  have hb := I.blast
  have hm := I.most
  have h0 := I.last
  by_cases h : i < 16
  · rw [begin_room (by omega) (by omega), if_pos h]
    simp only [Prod.mk.injEq, and_true]; omega
  · rw [begin_full (by omega) (by omega), if_neg h]
theorem lkp_not {α : Type} {l : List (Int × α)} {k : Int} (h : ∀ p ∈ l, p.1 ≠ k) : lkp l k = none := by
  cases e : lkp l k with
  | none => rfl
  | some v => exact absurd rfl (h _ (lkp_mem e))
theorem many_next {i : Nat} {M : Mgr} (I : Many i M) : Many (i + 1) M.begin.1 := by
  have hl := I.len
  have hb := I.blast
  have hm := I.most
  have h0 := I.last
  by_cases h : i < 16
  · rw [begin_room (by omega) (by omega)]
    have hno : lkp M.book.times (M.book.last + 1) = none := lkp_not fun p hp => by have := I.keys p hp; omega
    have ht : (put M.book.times (M.book.last + 1) M.last).length = min (i + 1) 16 := by rw [put_length, hno]; simp only [Option.isSome_none]; simp; omega
    have hk : ∀ p ∈ put M.book.times (M.book.last + 1) M.last, p.1 ≤ M.book.last + 1 := fun p hp => by
      rcases mem_put hp with e | e
      · subst e; exact Int.le_refl _
      · have := I.keys p e; omega
    have h1 : lkp (put M.book.times (M.book.last + 1) M.last) 1 = some 0 := by
      rw [lkp_put]
      split
      · rw [I.last]
      · exact I.t1 (by omega)
    have h2 : lkp (put M.all (M.book.last + 1) (freshT M)) 1 = some F0 := by
      rw [lkp_put]
      split
      · unfold freshT; rw [I.m, I.last]; rfl
      · exact I.a1 (by omega)
    exact ⟨I.m, I.read, I.out, I.queue, I.last, I.given, I.most, by simp only; omega, ht, hk, fun _ => h1, fun _ => h2⟩
  · rw [begin_full (by omega) (by omega)]
    exact ⟨I.m, I.read, I.out, I.queue, I.last, I.given, I.most, by simp only; omega, by simp only; omega, I.keys, fun _ => I.t1 (by omega), fun _ => I.a1 (by omega)⟩
/-- One that was the first has ended: there is room, and it is no handle any more. -/
structure Room (M : Mgr) : Prop where
  most : M.book.most = 16
  last : 0 ≤ M.last ∧ M.last ≤ 1099511627776
  len : M.book.times.length < 16
  blast : 1 ≤ M.book.last
  a1 : ∃ T, lkp M.all 1 = some T ∧ T.state ≠ 1
theorem room_begin {M : Mgr} (I : Room M) : M.begin.2.2 = 0 ∧ (M.begin.1.abort 1).2 = 5 := by
  have hb := begin_room I.last (by have := I.len; have := I.most; omega)
  refine ⟨by rw [hb], ?_⟩
  rw [hb]
  obtain ⟨T, hT, hs⟩ := I.a1
  have h1 : lkp (put M.all (M.book.last + 1) (freshT M)) 1 = some T := by
    have := I.blast
    rw [lkp_put, if_neg (by omega)]; exact hT
  unfold Mgr.abort Mgr.opn
  simp only [h1, if_neg hs]
theorem del_length {α : Type} {l : List (Int × α)} {k : Int} {v : α} (h : lkp l k = some v) : (del l k).length + 1 = l.length := by
  induction l with
  | nil => cases h
  | cons p r ih =>
    obtain ⟨j, x⟩ := p
    simp only [lkp] at h
    simp only [del]
    split
    · simp
    · rename_i e; rw [if_neg e] at h
      have := ih h
      simp only [List.length_cons]; omega
/-- An end of the first one makes room. -/
theorem room_end {n : Nat} {M : Mgr} {T : Trn} {st code : Int} (hT : lkp M.all 1 = some T) (ht : ∃ v, lkp M.book.times 1 = some v) (hlen : M.book.times.length = min n 16) (hst : st ≠ 1) (hmost : M.book.most = 16) (hbl : 1 ≤ M.book.last) (hl : 0 ≤ M.last ∧ M.last ≤ 1099511627776) : Room (M.end_ 1 st code) := by
  obtain ⟨v, hv⟩ := ht
  have hd := del_length hv
  have he : M.end_ 1 st code = { M with all := put M.all 1 { T with state := st, code := code, time := if st = 4 then 0 else T.time }, book := { M.book with times := del M.book.times 1 } } := by
    unfold Mgr.end_ Book.close
    rw [hT, hv]
  rw [he]
  exact ⟨hmost, hl, by simp only; omega, hbl, _, lkp_put_self _ _ _, hst⟩
end Go.Proofs.YtbolgpjcmchfoaaGreat
