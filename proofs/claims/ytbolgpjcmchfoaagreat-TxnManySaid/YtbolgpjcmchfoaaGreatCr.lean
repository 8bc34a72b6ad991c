/- What every manager is that the rules make: bounds that all calls keep; the calls' contracts under them alone. -/
import Derived.Test.YtbolgpjcmchfoaaGreatCw
namespace Go.Proofs.YtbolgpjcmchfoaaGreat
open Go Go.Vc Go.Sl Go.Mo
theorem delP_sublist {α : Type} (l : List (Int × α)) (k : Int) : (del l k).Sublist l := by
  induction l with
  | nil => exact List.Sublist.refl _
  | cons p r ih =>
    simp only [del]; split
    · exact List.sublist_cons_self _ _
    · exact ih.cons_cons _
theorem put_put {α : Type} : ∀ (l : List (Int × α)) (k : Int) (a b : α), put (put l k a) k b = put l k b := by
  intro l k a b
  induction l with
  | nil => simp [put]
  | cons p r ih =>
    obtain ⟨j, x⟩ := p
    simp only [put]
    by_cases e : k = j
    · simp [e, put]
    · simp [e, put, ih]
structure BufIn (n : Int) (B : Buf) : Prop where
  bl : B.blocks = n
  most : B.most = 16
  len : B.data.length ≤ 16
  data : ∀ q ∈ B.data, (0 ≤ q.1 ∧ q.1 < n) ∧ q.2.length = 40
structure TrnIn (n : Int) (T : Trn) : Prop where
  buf : BufIn n T.buf
  set : SetOk T.view.set
  most : T.view.set.most = 64
  slen : T.view.set.l.length ≤ 64
  time : 0 ≤ T.time ∧ T.time ≤ 1099511627776
  at_ : 0 ≤ T.at_ ∧ T.at_ ≤ 1099511627776
  vat : T.view.at_ = T.at_
  rdat : ∀ x ∈ T.view.reads, x.data.length = 40
/-- B: so many versions of a block at most; N: so many calls. -/
structure MgrIn (B N : Nat) (M : Mgr) : Prop where
  vers : XOk B M.m
  most : M.book.most = 16
  blast : 0 ≤ M.book.last ∧ M.book.last ≤ N
  keys : ∀ p ∈ M.book.times, 1 ≤ p.1 ∧ p.1 ≤ M.book.last
  blen : M.book.times.length ≤ 16
  all : ∀ q ∈ M.all, (1 ≤ q.1 ∧ q.1 ≤ M.book.last) ∧ TrnIn M.m.blocks q.2
  q : ∀ h ∈ M.queue, (lkp M.all h).isSome
  qlen : M.queue.length ≤ N
  out : 0 ≤ M.out ∧ M.out ≤ (M.queue.length : Nat)
  num : 0 ≤ M.num ∧ M.num ≤ N
  last : 0 ≤ M.last ∧ M.last ≤ 1099511627776
  given : 0 ≤ M.given ∧ M.given ≤ 1099511627776
  rds : ∀ q ∈ M.all, q.2.view.reads.length ≤ 16 * N
def MgrOk (N : Nat) (M : Mgr) : Prop := ∃ B, MgrIn B N M ∧ B + M.queue.length ≤ N
theorem BufIn.ok {n : Int} {B : Buf} (h : BufIn n B) (hn : n ≤ 1048576) : BufOk B ∧ ∀ q ∈ B.data, lbaOk q.1 :=
  ⟨⟨fun p hp => by obtain ⟨a, b⟩ := h.data p hp; exact ⟨by unfold i64ok; omega, by omega⟩, by have := h.len; omega⟩, fun q hq => by obtain ⟨a, b⟩ := h.data q hq; unfold lbaOk; omega⟩
theorem TrnIn.ok {n : Int} {T : Trn} (h : TrnIn n T) (hn : n ≤ 1048576) : TrnOk T :=
  ⟨(h.buf.ok hn).1, (h.buf.ok hn).2, by have := h.buf.len; omega, h.set, by have := h.slen; omega⟩
section
variable {B N : Nat} {M : Mgr}
theorem MgrIn.blocks (h : MgrIn B N M) : 1 ≤ M.m.blocks ∧ M.m.blocks ≤ 1048576 := h.vers.1
theorem MgrIn.trn (h : MgrIn B N M) {i : Int} {T : Trn} (hl : lkp M.all i = some T) : TrnIn M.m.blocks T := (h.all _ (lkp_mem hl)).2
theorem MgrIn.key (h : MgrIn B N M) {i : Int} {T : Trn} (hl : lkp M.all i = some T) : 1 ≤ i ∧ i ≤ M.book.last := (h.all _ (lkp_mem hl)).1
theorem MgrIn.mono (h : MgrIn B N M) {N' : Nat} (hn : N ≤ N') : MgrIn B N' M :=
  ⟨h.vers, h.most, by have := h.blast; omega, h.keys, h.blen, h.all, h.q, by have := h.qlen; omega, h.out, by have := h.num; omega, h.last, h.given, fun q hq => Nat.le_trans (h.rds q hq) (by omega)⟩
theorem MgrOk.mono (h : MgrOk N M) {N' : Nat} (hn : N ≤ N') : MgrOk N' M := let ⟨B, a, b⟩ := h; ⟨B, a.mono hn, by omega⟩
theorem MgrIn.book (h : MgrIn B N M) (hN : N ≤ 2 ^ 16) : BookOk M.book := ⟨fun p hp => by have := h.keys p hp; have := h.blast; unfold i64ok; omega, by have := h.blen; omega⟩
theorem MgrIn.wait (h : MgrIn B N M) (hN : N ≤ 2 ^ 16) : WaitOk M := ⟨by have := h.qlen; omega, fun i hi => by
  obtain ⟨T, hT⟩ := Option.isSome_iff_exists.1 (h.q i hi)
  have t := h.trn hT
  exact ⟨T, hT, (t.buf.ok h.blocks.2).1, by have := t.buf.len; omega⟩⟩
theorem opn_lkp {i : Int} {T : Trn} (h : M.opn i = some T) : lkp M.all i = some T ∧ T.state = 1 := by
  unfold Mgr.opn at h
  split at h
  · rename_i T' e
    split at h
    · cases h; exact ⟨e, ‹_›⟩
    · cases h
  · cases h
theorem opn_of {i : Int} {T : Trn} (h : lkp M.all i = some T) (h1 : T.state = 1) : M.opn i = some T := by
  unfold Mgr.opn; rw [h]; simp [h1]
theorem MgrIn.opn (h : MgrIn B N M) : ∀ i T, M.opn i = some T → TrnIn M.m.blocks T := fun _ _ hT => h.trn (opn_lkp hT).1
theorem MgrIn.waiting (h : MgrIn B N M) {t : Tx} (ht : t ∈ M.waiting) : t.puts.length ≤ 16 ∧ 0 ≤ t.time ∧ t.time ≤ 1099511627776 := by
  unfold Mgr.waiting at ht
  obtain ⟨i, hi, e⟩ := List.mem_filterMap.1 ht
  obtain ⟨T, hT⟩ := Option.isSome_iff_exists.1 (h.q i hi)
  rw [hT] at e
  simp only [Option.map_some, Option.some.injEq] at e
  have t := h.trn hT
  rw [← e]
  exact ⟨by rw [puts_length]; exact t.buf.len, t.time⟩
end
/-! ### What the rules keep -/
theorem mgrOk_new {n last : Int} (hn : 1 ≤ n ∧ n ≤ 1048576) (hl : 0 ≤ last ∧ last ≤ 1099511627776) : MgrOk 0 (Mgr.new n last) :=
  ⟨0, ⟨⟨hn, by simp [Mgr.new], by simp [Mgr.new]⟩, rfl, by simp [Mgr.new], by simp [Mgr.new], by simp [Mgr.new], by simp [Mgr.new], by simp [Mgr.new], by simp [Mgr.new], by simp [Mgr.new], by simp [Mgr.new], by simpa [Mgr.new] using hl, by simpa [Mgr.new] using hl, by simp [Mgr.new]⟩, by simp [Mgr.new]⟩
theorem lkp_put_some {α : Type} {l : List (Int × α)} {k j : Int} {v : α} (h : (lkp l j).isSome) : (lkp (put l k v) j).isSome := by
  rw [lkp_put]; split
  · rfl
  · exact h
/-- Another transaction at a place that is in the book's range. -/
theorem MgrIn.put {B N : Nat} {M : Mgr} (h : MgrIn B N M) {i : Int} {T : Trn} (hi : 1 ≤ i ∧ i ≤ M.book.last) (hT : TrnIn M.m.blocks T) (hr : T.view.reads.length ≤ 16 * N) : MgrIn B N { M with all := Sl.put M.all i T } :=
  ⟨h.vers, h.most, h.blast, h.keys, h.blen, fun q hq => by
    rcases mem_put hq with e | e
    · subst e; exact ⟨hi, hT⟩
    · exact h.all q e, fun j hj => lkp_put_some (h.q j hj), h.qlen, h.out, h.num, h.last, h.given, fun q hq => by
    rcases mem_put hq with e | e
    · subst e; exact hr
    · exact h.rds q e⟩
theorem MgrIn.end_ {B N : Nat} {M : Mgr} (h : MgrIn B N M) (i st code : Int) : MgrIn B N (M.end_ i st code) := by
  unfold Mgr.end_
  split
  · exact h
  · rename_i T hT
    have t := h.trn hT
    have hk := h.key hT
    have h1 := h.put (i := i) (T := { T with state := st, code := code, time := if st = 4 then 0 else T.time }) hk ⟨t.buf, t.set, t.most, t.slen, by simp only; have := t.time; split <;> omega, t.at_, t.vat, t.rdat⟩ (h.rds _ (lkp_mem hT))
    have hb : (M.book.close i).1.most = M.book.most ∧ (M.book.close i).1.last = M.book.last ∧ (M.book.close i).1.times.Sublist M.book.times := by
      unfold Book.close
      split
      · exact ⟨rfl, rfl, List.Sublist.refl _⟩
      · exact ⟨rfl, rfl, delP_sublist _ _⟩
    obtain ⟨b1, b2, b3⟩ := hb
    exact ⟨h1.vers, b1.trans h1.most, by rw [b2]; exact h1.blast, fun p hp => by rw [b2]; exact h1.keys p (b3.subset hp), Nat.le_trans b3.length_le h1.blen, fun q hq => by rw [b2]; exact h1.all q hq, h1.q, h1.qlen, h1.out, h1.num, h1.last, h1.given, h1.rds⟩
theorem end_queue {M : Mgr} {i st code : Int} : (M.end_ i st code).queue = M.queue := (end_rest M i st code).2.1
theorem mem_putsIn : ∀ (l : List Put) (d : List (Int × List UInt8)) {q}, q ∈ putsIn d l → q ∈ d ∨ ∃ x ∈ l, q = (x.lba, x.data)
  | [], _, _, h => .inl h
  | x :: r, d, q, h => by
    rcases mem_putsIn r (Sl.put d x.lba x.data) h with e | ⟨y, hy, e⟩
    · rcases mem_put e with e | e
      · exact .inr ⟨x, by simp, e⟩
      · exact .inl e
    · exact .inr ⟨y, by simp [hy], e⟩
theorem putsIn_length : ∀ (l : List Put) (d : List (Int × List UInt8)), (l.map Put.lba).Nodup → (putsIn d l).length = d.length + newOnes d l
  | [], _, _ => rfl
  | x :: r, d, h => by
    simp only [List.map_cons, List.nodup_cons] at h
    have ih := putsIn_length r (Sl.put d x.lba x.data) h.2
    have e : newOnes (Sl.put d x.lba x.data) r = newOnes d r := by
      unfold newOnes
      congr 1
      refine List.filter_congr fun p hp => ?_
      rw [lkp_put, if_neg (fun e => h.1 (by rw [← e]; exact List.mem_map.2 ⟨p, hp, rfl⟩))]
    show (putsIn (Sl.put d x.lba x.data) r).length = _
    rw [ih, e, put_length]
    unfold newOnes
    rw [List.filter_cons]
    cases lkp d x.lba with
    | none => simp; omega
    | some v => simp
theorem buf_write_in {n : Int} {B : Buf} (h : BufIn n B) (l : List Put) : BufIn n (B.write l).1 := by
  unfold Buf.write
  split
  · exact h
  · split
    · exact h
    · rename_i ho
      split
      · exact h
      · rename_i hl
        split
        · exact h
        · rename_i ht
          split
          · exact h
          · rename_i hm
            refine ⟨h.bl, h.most, ?_, fun q hq => ?_⟩
            · have hd : (l.map Put.lba).Nodup := by simpa [twiceM] using ht
              rw [putsIn_length l B.data hd]
              rw [h.most] at hm
              omega
            · rcases mem_putsIn l B.data hq with e | ⟨x, hx, rfl⟩
              · exact h.data q e
              · have h1 := List.any_eq_false.1 (by simpa using ho : l.any (outOf B.blocks) = false) x hx
                have h2 := List.any_eq_false.1 (by simpa using hl : l.any badLen = false) x hx
                simp only [outOf, h.bl, Bool.or_eq_true, decide_eq_true_eq, not_or] at h1
                simp only [badLen, Bool.not_eq_true', decide_eq_false_iff_not, Decidable.not_not] at h2
                exact ⟨by simp only; omega, h2⟩
theorem fresh_in {B N : Nat} {M : Mgr} (h : MgrIn B N M) : TrnIn M.m.blocks (freshT M) :=
  ⟨⟨rfl, rfl, by simp [freshT], by simp [freshT]⟩, emptySet_ok, rfl, by simp [freshT], by simp [freshT], h.last, rfl, by simp [freshT]⟩
theorem begin_room {M : Mgr} (hl : 0 ≤ M.last ∧ M.last ≤ 1099511627776) (hr : (M.book.times.length : Int) < M.book.most) :
    M.begin = ({ M with book := ⟨M.book.most, M.book.last + 1, Sl.put M.book.times (M.book.last + 1) M.last⟩, all := Sl.put M.all (M.book.last + 1) (freshT M) }, (M.book.last + 1, 0)) := by
  have ho : M.book.open M.last = (⟨M.book.most, M.book.last + 1, Sl.put M.book.times (M.book.last + 1) M.last⟩, (M.book.last + 1, 0)) := by
    unfold Book.open
    rw [if_neg (by omega), if_neg (by omega)]
  unfold Mgr.begin
  rw [ho]; simp
theorem begin_full {M : Mgr} (hl : 0 ≤ M.last ∧ M.last ≤ 1099511627776) (hr : M.book.most ≤ (M.book.times.length : Int)) : M.begin = (M, (0, 6)) := by
  have ho : M.book.open M.last = (M.book, (0, 6)) := by
    unfold Book.open
    rw [if_neg (by omega), if_pos hr]
  unfold Mgr.begin
  rw [ho]; simp
theorem mgrOk_begin {N : Nat} {M : Mgr} (h : MgrOk N M) : MgrOk (N + 1) M.begin.1 := by
  obtain ⟨B, I, hB⟩ := h
  unfold Mgr.begin
  split
  · rename_i ho
    unfold Book.open at ho ⊢
    split at ho
    · simp at ho
    · rename_i h1
      split at ho
      · simp at ho
      · rename_i h2
        rw [if_neg h1, if_neg h2]
        refine ⟨B, ⟨I.vers, I.most, by have := I.blast; simp only; omega, fun p hp => ?_, ?_, fun q hq => ?_, fun j hj => lkp_put_some (I.q j hj), by have := I.qlen; simp only; omega, I.out, by have := I.num; simp only; omega, I.last, I.given, fun q hq => ?_⟩, by simp only; omega⟩
        · have := I.blast
          rcases mem_put hp with e | e
          · subst e; simp only; omega
          · have := I.keys p e; simp only; omega
        · have := put_length_le M.book.times (M.book.last + 1) M.last
          have := I.most
          simp only; omega
        · have := I.blast
          rcases mem_put hq with e | e
          · subst e; exact ⟨by simp only; omega, fresh_in (M := M) I⟩
          · obtain ⟨a, b⟩ := I.all q e; exact ⟨by simp only; omega, b⟩
        · rcases mem_put hq with e | e
          · subst e; simp [freshT]
          · have := I.rds q e; omega
  · exact ⟨B, I.mono (by omega), by simp only; omega⟩
theorem mgrOk_write {N : Nat} {M : Mgr} (h : MgrOk N M) (i : Int) (l : List Put) : MgrOk N (M.write i l).1 := by
  obtain ⟨B, I, hB⟩ := h
  unfold Mgr.write
  split
  · exact ⟨B, I, hB⟩
  · rename_i T hT
    have t := I.opn _ _ hT
    exact ⟨B, I.put (I.key (opn_lkp hT).1) ⟨buf_write_in t.buf l, t.set, t.most, t.slen, t.time, t.at_, t.vat, t.rdat⟩ (I.rds _ (lkp_mem (opn_lkp hT).1)), hB⟩
theorem mgrOk_end {N : Nat} {M : Mgr} (h : MgrOk N M) (i st code : Int) : MgrOk N (M.end_ i st code) := by
  obtain ⟨B, I, hB⟩ := h
  exact ⟨B, I.end_ i st code, by rw [end_queue]; exact hB⟩
theorem mgrOk_abort {N : Nat} {M : Mgr} (h : MgrOk N M) (i : Int) : MgrOk N (M.abort i).1 := by
  unfold Mgr.abort
  split
  · exact h
  · exact mgrOk_end h _ _ _
theorem mgrOk_commit {N : Nat} {M : Mgr} (h : MgrOk N M) (i : Int) : MgrOk (N + 1) (M.commit i).1 := by
  unfold Mgr.commit
  split
  · exact h.mono (by omega)
  · rename_i T hT
    have hl := (opn_lkp hT).1
    split
    · obtain ⟨B, I, hB⟩ := h
      have t := I.trn hl
      refine MgrOk.mono (mgrOk_end (N := N) ⟨B, I.put (I.key hl) (T := { T with time := T.at_ }) ⟨t.buf, t.set, t.most, t.slen, t.at_, t.at_, t.vat, t.rdat⟩ (I.rds _ (lkp_mem hl)), hB⟩ _ _ _) (by omega)
    · split
      · exact (mgrOk_end h _ _ _).mono (by omega)
      · rename_i hm
        obtain ⟨B, I, hB⟩ := h
        have t := I.trn hl
        have hg : ¬ (1099511627776 : Int) ≤ M.given := fun hg => hm (by
          unfold Mgr.may
          split
          · simp
          · split
            · assumption
            · first | simp | (rw [if_pos hg]; simp))
        have hg0 := I.given
        have h1 := I.put (I.key hl) (T := { T with state := 2, time := M.given + 1 }) ⟨t.buf, t.set, t.most, t.slen, by simp only; omega, t.at_, t.vat, t.rdat⟩ (I.rds _ (lkp_mem hl))
        refine ⟨B, ⟨h1.vers, h1.most, by have := h1.blast; simp only at this ⊢; omega, h1.keys, h1.blen, h1.all, fun j hj => ?_, by have := I.qlen; simp; omega, by have := I.out; simp; omega, by have := I.num; simp only; omega, h1.last, by simp only; omega, fun q hq => by have := h1.rds q hq; omega⟩, by simp; omega⟩
        rcases List.mem_append.1 hj with hj | hj
        · exact h1.q j hj
        · simp only [List.mem_singleton] at hj; subst hj
          simp only [lkp_put_self, Option.isSome_some]
theorem mgrOk_batch {N : Nat} {M : Mgr} (h : MgrOk N M) (hN : N ≤ 2 ^ 16) : MgrOk N M.batch.1 := by
  obtain ⟨B, I, hB⟩ := h
  unfold Mgr.batch
  split
  · exact ⟨B, I, hB⟩
  · split
    · exact ⟨B, I, hB⟩
    · have hf := formL_bounds M.waiting 0 0
      have hw := waiting_len (I.wait hN)
      exact ⟨B, ⟨I.vers, I.most, I.blast, I.keys, I.blen, I.all, I.q, I.qlen, by simp only; omega, I.num, I.last, I.given, I.rds⟩, hB⟩
theorem apply_blocks (m : XMap) (t : Tx) : (m.apply t).1.blocks = m.blocks := by
  unfold XMap.apply; repeat' split
  all_goals rfl
theorem doneOne_in {B N : Nat} {M : Mgr} {code : Int} {x : Int × Tx} (I : MgrIn B N M) (hx : x.2.puts.length ≤ 16 ∧ 0 ≤ x.2.time ∧ x.2.time ≤ 1099511627776) : MgrIn (B + 1) N (doneOne code M x) := by
  have up : ∀ {M : Mgr}, MgrIn B N M → MgrIn (B + 1) N M := fun I => ⟨by
    obtain ⟨a, b, c⟩ := I.vers
    exact ⟨a, Nat.le_trans b (Nat.mul_le_mul_right _ (Nat.le_succ B)), fun q hq => by obtain ⟨h1, h2, h3, h4⟩ := c q hq; exact ⟨h1, h2, by omega, h4⟩⟩, I.most, I.blast, I.keys, I.blen, I.all, I.q, I.qlen, I.out, I.num, I.last, I.given, I.rds⟩
  unfold doneOne
  split
  · exact (up I).end_ _ _ _
  · refine MgrIn.end_ (M := { M with m := (M.m.apply x.2).1, last := x.2.time }) ⟨apply_ok I.vers (by omega), I.most, I.blast, I.keys, I.blen, fun q hq => ?_, I.q, I.qlen, I.out, I.num, hx.2, I.given, I.rds⟩ _ _ _
    obtain ⟨a, b⟩ := I.all q hq
    exact ⟨a, by simp only; rw [apply_blocks]; exact b⟩
theorem foldl_done_in {code : Int} {N : Nat} : ∀ (l : List (Int × Tx)) {B : Nat} {M : Mgr}, MgrIn B N M → (∀ x ∈ l, x.2.puts.length ≤ 16 ∧ 0 ≤ x.2.time ∧ x.2.time ≤ 1099511627776) → MgrIn (B + l.length) N (l.foldl (doneOne code) M)
  | [], _, _, I, _ => I
  | x :: r, B, M, I, hn => by
    have := foldl_done_in (code := code) r (doneOne_in (code := code) I (hn x (by simp))) fun y hy => hn y (by simp [hy])
    simp only [List.foldl_cons, List.length_cons]
    rw [show B + (r.length + 1) = B + 1 + r.length from by omega]
    exact this
theorem mgrOk_done {N : Nat} {M : Mgr} (h : MgrOk N M) (hN : N ≤ 2 ^ 16) (code : Int) : MgrOk (N + 1) (M.done code).1 := by
  obtain ⟨B, I, hB⟩ := h
  unfold Mgr.done
  split
  · exact ⟨B, I.mono (by omega), by simp only; omega⟩
  · have hw := waiting_len (I.wait hN)
    have hz : ((M.queue.take M.out.toNat).zip (M.waiting.take M.out.toNat)).length = M.out.toNat := by
      have := I.out
      simp only [List.length_zip, List.length_take, hw]; omega
    have J := foldl_done_in (code := code) ((M.queue.take M.out.toNat).zip (M.waiting.take M.out.toNat)) I fun x hx => I.waiting (List.mem_of_mem_take (List.of_mem_zip hx).2)
    have hr := (foldl_done code ((M.queue.take M.out.toNat).zip (M.waiting.take M.out.toNat)) M).1
    rw [hz] at J
    simp only []
    generalize ((M.queue.take M.out.toNat).zip (M.waiting.take M.out.toNat)).foldl (doneOne code) M = M1 at J hr ⊢
    obtain ⟨r1, r2, r3⟩ := hr
    have ho := I.out
    have hd : (M.queue.drop M.out.toNat).length = M.queue.length - M.out.toNat := List.length_drop
    refine ⟨B + M.out.toNat, ⟨J.vers, J.most, by have := J.blast; simp only; omega, J.keys, J.blen, J.all, fun j hj => ?_, by have := I.qlen; simp only; rw [hd]; omega, by simp, by have := I.num; simp only; split <;> omega, J.last, J.given, fun q hq => by have := J.rds q hq; omega⟩, by simp only; rw [hd]; omega⟩
    exact J.q j (by rw [r1]; exact List.mem_of_mem_drop hj)
theorem mgrOk_ro {N : Nat} {M : Mgr} (h : MgrOk N M) (b : Bool) : MgrOk N { M with read := b } := by
  obtain ⟨B, I, hB⟩ := h
  exact ⟨B, ⟨I.vers, I.most, I.blast, I.keys, I.blen, I.all, I.q, I.qlen, I.out, I.num, I.last, I.given, I.rds⟩, hB⟩
theorem add_in {S : XSet} {l : List Ext} (h : (S.l.length : Int) ≤ S.most) : (S.add l).1.most = S.most ∧ ((S.add l).1.l.length : Int) ≤ S.most := by
  unfold XSet.add
  repeat' split
  all_goals first | exact ⟨rfl, h⟩ | exact ⟨rfl, by simp only; omega⟩
theorem read_in {B : Nat} {M : XMap} {T : Trn} (ok : XOk B M) (t : TrnIn M.blocks T) (e : Ext) : TrnIn M.blocks { T with view := (T.view.read M T.buf e).1 } ∧ (T.view.read M T.buf e).1.reads.length ≤ T.view.reads.length + 16 := by
  have same : TrnIn M.blocks { T with view := T.view } ∧ T.view.reads.length ≤ T.view.reads.length + 16 := ⟨t, by omega⟩
  unfold View.read
  split
  · exact same
  · split
    · exact same
    · split
      · exact same
      · have hm := t.most
        have hs := t.slen
        have ha := add_in (S := T.view.set) (l := [e]) (by omega)
        refine ⟨⟨t.buf, set_add_ok t.set (by simp; omega), ha.1.trans hm, by simp only; omega, t.time, t.at_, t.vat, fun x hx => ?_⟩, ?_⟩
        · rcases List.mem_append.1 hx with h | h
          · exact t.rdat x h
          · obtain ⟨k, _, rfl⟩ := List.mem_map.1 h
            exact seen_len ok fun q hq => (t.buf.data q hq).2
        · simp only [List.length_append, List.length_map, blocksOf_length]; omega
theorem mgrOk_read {N : Nat} {M : Mgr} (h : MgrOk N M) (i : Int) (e : Ext) : MgrOk (N + 1) (M.readE i e).1 := by
  obtain ⟨B, I, hB⟩ := h
  unfold Mgr.readE
  split
  · exact ⟨B, I.mono (by omega), by simp only; omega⟩
  · rename_i T hT
    have hl := (opn_lkp hT).1
    obtain ⟨a, b⟩ := read_in I.vers (I.trn hl) e
    have := I.rds _ (lkp_mem hl)
    exact ⟨B, (I.mono (N' := N + 1) (by omega)).put (I.key hl) a (by simp only at this ⊢; omega), by simp only; omega⟩
theorem mgrOk_load {N : Nat} {M : Mgr} (h : MgrOk N M) (l : List Put) (hl : l.length ≤ 2 ^ 13) : MgrOk (N + 1) (M.load l).1 := by
  obtain ⟨B, I, hB⟩ := h
  unfold Mgr.load
  split
  · exact ⟨B, I.mono (by omega), by simp only; omega⟩
  · split
    · exact ⟨B, I.mono (by omega), by simp only; omega⟩
    · have J := I.mono (N' := N + 1) (by omega)
      refine ⟨B + 1, ⟨apply_ok I.vers hl, J.most, J.blast, J.keys, J.blen, fun q hq => ?_, J.q, J.qlen, J.out, J.num, J.last, J.given, J.rds⟩, by simp only; omega⟩
      obtain ⟨a, b⟩ := J.all q hq
      exact ⟨a, by simp only; rw [apply_blocks]; exact b⟩
/-! ### The calls' contracts at any manager that the rules make -/
section
variable {N : Nat} {p : Option Addr} {M : Mgr} {R : HP} {w : World}
theorem ok_begin {K : Int × Int → World → Prop} (h : Sat (mgrA p M * R) w) (ok : MgrOk N M) (hN : N ≤ 2 ^ 16) (hk : ∀ w', MgrOk (N + 1) M.begin.1 → Sat (mgrA p M.begin.1 * R) w' → K M.begin.2 w') : c_txn_Manager_Begin p w K := by
  obtain ⟨B, I, hB⟩ := ok
  exact mgr_begin h I.blocks (I.book hN) (by have := I.blast; omega) fun w' h' => hk w' (mgrOk_begin ⟨B, I, hB⟩) h'
theorem ok_write {i : Int} {s : SV} {l : List Put} {K : Int → World → Prop} (h : Sat (mgrA p M * R) w) (ok : MgrOk N M) (hl : ∀ w', Sat R w' → putsOn (hp w') s l) (hn : l.length ≤ 2 ^ 40) (hk : ∀ w', MgrOk N (M.write i l).1 → Sat (mgrA p (M.write i l).1 * R) w' → K (M.write i l).2 w') : c_txn_Manager_Write p i s w K := by
  obtain ⟨B, I, hB⟩ := ok
  exact mgr_write h hl hn (fun T hT => by have := (I.opn i T hT).buf.len; omega) fun w' h' => hk w' (mgrOk_write ⟨B, I, hB⟩ i l) h'
theorem ok_abort {i : Int} {K : Int → World → Prop} (h : Sat (mgrA p M * R) w) (ok : MgrOk N M) (hk : ∀ w', MgrOk N (M.abort i).1 → Sat (mgrA p (M.abort i).1 * R) w' → K (M.abort i).2 w') : c_txn_Manager_Abort p i w K :=
  mgr_abort h fun w' h' => hk w' (mgrOk_abort ok i) h'
theorem ok_commit {i : Int} {K : Int → World → Prop} (h : Sat (mgrA p M * R) w) (ok : MgrOk N M) (hN : N ≤ 2 ^ 16) (hk : ∀ w', MgrOk (N + 1) (M.commit i).1 → Sat (mgrA p (M.commit i).1 * R) w' → K (M.commit i).2 w') : c_txn_Manager_Commit p i w K := by
  obtain ⟨B, I, hB⟩ := ok
  exact mgr_commit (B := B) h I.vers (by omega) (I.wait hN) (fun T hT => (I.opn i T hT).ok I.blocks.2) (by have := I.given; omega) fun w' h' => hk w' (mgrOk_commit ⟨B, I, hB⟩ i) h'
theorem ok_batch {K : (Int × SV) × Int → World → Prop} (h : Sat (mgrA p M * R) w) (ok : MgrOk N M) (hN : N ≤ 2 ^ 16) (hk : ∀ s' w', MgrOk N M.batch.1 → Sat (batchA s' M.batch.2.1.2 * (mgrA p M.batch.1 * R)) w' → K ((M.batch.2.1.1, s'), M.batch.2.2) w') : c_txn_Manager_Batch p w K := by
  obtain ⟨B, I, hB⟩ := ok
  exact mgr_batch h (I.wait hN) (by have := I.num; omega) fun s' w' h' => hk s' w' (mgrOk_batch ⟨B, I, hB⟩ hN) h'
theorem ok_done {code : Int} {K : Int → World → Prop} (h : Sat (mgrA p M * R) w) (ok : MgrOk N M) (hN : N ≤ 2 ^ 16) (hk : ∀ w', MgrOk (N + 1) (M.done code).1 → Sat (mgrA p (M.done code).1 * R) w' → K (M.done code).2 w') : c_txn_Manager_Done p code w K := by
  obtain ⟨B, I, hB⟩ := ok
  exact mgr_done (B := B) h I.vers (by omega) (I.wait hN) (by have := I.qlen; omega) (fun t ht => by have := (I.waiting ht).1; omega) I.out (by have := I.num; omega) fun w' h' => hk w' (mgrOk_done ⟨B, I, hB⟩ hN code) h'
theorem ok_openN {K : Int → World → Prop} (h : Sat (mgrA p M * R) w) (ok : MgrOk N M) (hN : N ≤ 2 ^ 16) (hk : ∀ w', Keep w w' → K (M.book.times.length : Nat) w') : c_txn_Manager_Open p w K := by
  obtain ⟨B, I, hB⟩ := ok
  exact mgr_openN h (I.book hN) hk
theorem ok_read {i : Int} {e : Ext} {K : SV × Int → World → Prop} (h : Sat (mgrA p M * R) w) (ok : MgrOk N M) (hN : N ≤ 2 ^ 16) (hk : ∀ s w', MgrOk (N + 1) (M.readE i e).1 → Sat (byteRow s (M.readE i e).2.1 * (mgrA p (M.readE i e).1 * R)) w' → K (s, (M.readE i e).2.2) w') : c_txn_Manager_Read p i e.first e.len w K := by
  obtain ⟨B, I, hB⟩ := ok
  refine mgr_read (n := B) h I.vers (by omega) (fun T hT => ?_) fun s w' h' => hk s w' (mgrOk_read ⟨B, I, hB⟩ i e) h'
  have t := I.opn i T hT
  have hr := I.rds _ (lkp_mem (opn_lkp hT).1)
  exact ⟨fun q hq => (t.buf.data q hq).2, t.set, by have := t.slen; omega, by simp only at hr; omega⟩
theorem ok_load {s : SV} {l : List Put} {K : Int → World → Prop} (h : Sat (mgrA p M * R) w) (ok : MgrOk N M) (hN : N ≤ 2 ^ 16) (hl : ∀ w', Sat R w' → putsOn (hp w') s l) (hn : l.length ≤ 2 ^ 13) (hk : ∀ w', MgrOk (N + 1) (M.load l).1 → Sat (mgrA p (M.load l).1 * R) w' → K (M.load l).2 w') : c_txn_Manager_Load p s w K := by
  obtain ⟨B, I, hB⟩ := ok
  exact mgr_load (B := B) h I.vers (by omega) hl (by omega) fun w' h' => hk w' (mgrOk_load ⟨B, I, hB⟩ l hn) h'
theorem ok_dump {K : SV → World → Prop} (h : Sat (mgrA p M * R) w) (ok : MgrOk N M) (hN : N ≤ 2 ^ 16) (hk : ∀ s w', Sat (putsA s M.m.dump * whole w) w' → K s w') : c_txn_Manager_Dump p w K := by
  obtain ⟨B, I, hB⟩ := ok
  exact mgr_dump (B := B) h I.vers (by omega) hk
theorem ok_versions {K : Int → World → Prop} (h : Sat (mgrA p M * R) w) (ok : MgrOk N M) (hN : N ≤ 2 ^ 16) (hk : ∀ w', Keep w w' → K M.m.versions w') : c_txn_Manager_Versions p w K := by
  obtain ⟨B, I, hB⟩ := ok
  exact mgr_versions (B := B) h I.vers (by omega) hk
theorem ok_ro {v : Bool} {K : Unit → World → Prop} (h : Sat (mgrA p M * R) w) (ok : MgrOk N M) (hk : ∀ w', MgrOk N { M with read := v } → Sat (mgrA p { M with read := v } * R) w' → K () w') : c_txn_Manager_ReadOnly p v w K :=
  mgr_ro h fun w' h' => hk w' (mgrOk_ro ok v) h'
end
end Go.Proofs.YtbolgpjcmchfoaaGreat
