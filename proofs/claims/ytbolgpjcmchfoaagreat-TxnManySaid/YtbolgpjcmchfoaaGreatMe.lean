/- The map of versions: its rules as plain functions; what it is in memory. -/
import Derived.Test.YtbolgpjcmchfoaaGreatMd
namespace Go.Mo
open Go Go.Vc Go.Sl
/-- Of each block its versions, each a time and its bytes. -/
structure XMap where
  blocks : Int
  vers : List (Int × List Put)
  last : Int
def xmapA (p : Option Addr) (M : XMap) : HP := ex fun r : Nat => objA p [.int .i64 M.blocks, .map (some r), .int .i64 M.last] * slmapA putsA r M.vers
theorem xmapA_open {p : Option Addr} {M : XMap} {R : HP} {w : World} (h : Sat (xmapA p M * R) w) : ∃ r, Sat (objA p [.int .i64 M.blocks, .map (some r), .int .i64 M.last] * (slmapA putsA r M.vers * R)) w := by
  simp only [xmapA, ex_mul, mul_assoc', sat_ex] at h
  exact h
theorem xmapA_close {p : Option Addr} {M : XMap} {r : Nat} {R : HP} {w : World} (h : Sat (objA p [.int .i64 M.blocks, .map (some r), .int .i64 M.last] * (slmapA putsA r M.vers * R)) w) : Sat (xmapA p M * R) w := by
  simp only [xmapA, ex_mul, mul_assoc', sat_ex]
  exact ⟨r, h⟩
def versOf (v : List (Int × List Put)) (k : Int) : List Put := (lkp v k).getD []
def addVer (t : Int) (v : List (Int × List Put)) (x : Put) : List (Int × List Put) := put v x.lba (versOf v x.lba ++ [⟨t, x.data⟩])
def inB (M : XMap) (lba : Int) : Bool := decide (0 ≤ lba ∧ lba < M.blocks)
def XMap.apply (M : XMap) (t : Tx) : XMap × Int :=
  if t.time ≤ M.last ∨ 1099511627776 < t.time then (M, 11) else if riseM t.puts = false then (M, 1)
  else if inB M (t.puts.headD ⟨0, []⟩).lba = false ∨ inB M (t.puts.getLastD ⟨0, []⟩).lba = false then (M, 2)
  else if t.puts.any badLen then (M, 3)
  else ({ M with vers := t.puts.foldl (addVer t.time) M.vers, last := t.time }, 0)
/-- So many versions of a block at most. -/
def XOk (B : Nat) (M : XMap) : Prop := (1 ≤ M.blocks ∧ M.blocks ≤ 1048576) ∧ M.vers.length ≤ B * 2 ^ 13 ∧ ∀ q ∈ M.vers, (0 ≤ q.1 ∧ q.1 < M.blocks) ∧ 0 < q.2.length ∧ q.2.length ≤ B ∧ ∀ x ∈ q.2, x.data.length = 40
theorem mem_put {α : Type} {l : List (Int × α)} {k : Int} {v : α} {q : Int × α} (h : q ∈ put l k v) : q = (k, v) ∨ q ∈ l := by
  induction l with
  | nil => simp [put] at h; exact .inl h
  | cons p r ih =>
    simp only [put] at h
    split at h
    · rename_i e
      rcases List.mem_cons.1 h with h | h
      · subst e; exact .inl h
      · exact .inr (by simp [h])
    · rcases List.mem_cons.1 h with h | h
      · exact .inr (by simp [h])
      · rcases ih h with h | h
        · exact .inl h
        · exact .inr (by simp [h])
theorem put_length {α : Type} (l : List (Int × α)) (k : Int) (v : α) : (put l k v).length = if (lkp l k).isSome then l.length else l.length + 1 := by
  induction l with
  | nil => rfl
  | cons p r ih =>
    simp only [put, lkp]
    split
    · rfl
    · simp only [List.length_cons, ih]; split <;> rfl
theorem put_length_le {α : Type} (l : List (Int × α)) (k : Int) (v : α) : (put l k v).length ≤ l.length + 1 := by
  rw [put_length]; split <;> omega
theorem apply_ok {B : Nat} {M : XMap} {t : Tx} (ok : XOk B M) (hn : t.puts.length ≤ 2 ^ 13) : XOk (B + 1) (M.apply t).1 := by
  have ok1 : XOk (B + 1) M := ⟨ok.1, Nat.le_trans ok.2.1 (Nat.mul_le_mul_right _ (Nat.le_succ B)), fun q hq => by obtain ⟨h1, h2, h3, h4⟩ := ok.2.2 q hq; exact ⟨h1, h2, by omega, h4⟩⟩
  unfold XMap.apply
  split
  · exact ok1
  · split
    · exact ok1
    · rename_i hr
      split
      · exact ok1
      · rename_i hin
        split
        · exact ok1
        · rename_i hbad
          have hr' : riseM t.puts = true := by simpa using hr
          unfold riseM at hr'
          simp only [decide_eq_true_eq] at hr'
          obtain ⟨hpos, hpw⟩ := hr'
          have hpw' := List.pairwise_iff_getElem.1 hpw
          have hhead : t.puts.headD ⟨0, []⟩ = t.puts[0] := by rw [List.headD_eq_head?_getD, List.head?_eq_getElem?, List.getElem?_eq_getElem hpos]; rfl
          have hlast : t.puts.getLastD ⟨0, []⟩ = t.puts[t.puts.length - 1] := by rw [List.getLastD_eq_getLast?, List.getLast?_eq_getElem?, List.getElem?_eq_getElem (by omega)]; rfl
          rw [hhead, hlast] at hin
          have h0 : 0 ≤ t.puts[0].lba ∧ t.puts[0].lba < M.blocks := by
            have : inB M t.puts[0].lba = true := by
              cases e : inB M t.puts[0].lba
              · exact absurd (.inl e) hin
              · rfl
            simpa [inB] using this
          have h1 : 0 ≤ t.puts[t.puts.length - 1].lba ∧ t.puts[t.puts.length - 1].lba < M.blocks := by
            have : inB M t.puts[t.puts.length - 1].lba = true := by
              cases e : inB M t.puts[t.puts.length - 1].lba
              · exact absurd (.inr e) hin
              · rfl
            simpa [inB] using this
          have hall : ∀ j (hj : j < t.puts.length), 0 ≤ t.puts[j].lba ∧ t.puts[j].lba < M.blocks := fun j hj => by
            have a : t.puts[0].lba ≤ t.puts[j].lba := by
              rcases Nat.eq_zero_or_pos j with e | e
              · subst e; exact Int.le_refl _
              · have := hpw' 0 j (by simpa using hpos) (by simpa using hj) e
                simp only [List.getElem_map] at this; omega
            have b : t.puts[j].lba ≤ t.puts[t.puts.length - 1].lba := by
              by_cases e : j = t.puts.length - 1
              · subst e; exact Int.le_refl _
              · have := hpw' j (t.puts.length - 1) (by simpa using hj) (by simp; omega) (by omega)
                simp only [List.getElem_map] at this; omega
            omega
          have h40 : ∀ x ∈ t.puts, x.data.length = 40 := fun x hx => by
            have := List.any_eq_false.1 (by simpa using hbad : t.puts.any badLen = false) x hx
            simpa [badLen] using this
          have key : ∀ i, i ≤ t.puts.length → ((t.puts.take i).foldl (addVer t.time) M.vers).length ≤ M.vers.length + i ∧ ∀ q ∈ (t.puts.take i).foldl (addVer t.time) M.vers, (0 ≤ q.1 ∧ q.1 < M.blocks) ∧ 0 < q.2.length ∧ (q.2.length ≤ B + (if q.1 ∈ (t.puts.take i).map Put.lba then 1 else 0)) ∧ ∀ x ∈ q.2, x.data.length = 40 := by
            intro i
            induction i with
            | zero => intro _; exact ⟨by simp, fun q hq => by obtain ⟨a, b, c, d⟩ := ok.2.2 q hq; exact ⟨a, b, by simpa using c, d⟩⟩
            | succ i ih =>
              intro hi
              obtain ⟨l1, l2⟩ := ih (by omega)
              have hsucc : t.puts.take (i + 1) = t.puts.take i ++ [t.puts[i]] := List.take_succ_eq_append_getElem (by omega)
              rw [hsucc, List.foldl_append]
              simp only [List.foldl_cons, List.foldl_nil]
              have hnew : t.puts[i].lba ∉ (t.puts.take i).map Put.lba := by
                intro h
                obtain ⟨x, hx, e⟩ := List.mem_map.1 h
                obtain ⟨j, hj, rfl⟩ := List.getElem_of_mem hx
                have hj' : j < i := by simp at hj; omega
                have := hpw' j i (by simp; omega) (by simp; omega) hj'
                simp only [List.getElem_map, List.getElem_take] at this e
                omega
              generalize (t.puts.take i).foldl (addVer t.time) M.vers = vs at l1 l2 ⊢
              refine ⟨?_, fun q hq => ?_⟩
              · have := put_length_le vs t.puts[i].lba (versOf vs t.puts[i].lba ++ [⟨t.time, t.puts[i].data⟩])
                unfold addVer; omega
              · rcases mem_put hq with e | e
                · subst e
                  refine ⟨hall i (by omega), by simp, ?_, fun x hx => ?_⟩
                  · simp only [List.map_append, List.map_cons, List.map_nil, List.mem_append, List.mem_singleton, or_true, ↓reduceIte, List.length_append, List.length_singleton]
                    unfold versOf
                    cases e : lkp vs t.puts[i].lba with
                    | none => simp
                    | some v =>
                      have := (l2 _ (lkp_mem e)).2.2.1
                      rw [if_neg hnew] at this
                      simp only [Option.getD_some]; simp only [Nat.add_zero] at this; omega
                  · rcases List.mem_append.1 hx with h | h
                    · unfold versOf at h
                      cases e : lkp vs t.puts[i].lba with
                      | none => rw [e] at h; simp at h
                      | some v => rw [e] at h; exact (l2 _ (lkp_mem e)).2.2.2 x h
                    · simp only [List.mem_singleton] at h; subst h
                      show t.puts[i].data.length = 40
                      exact h40 _ (List.getElem_mem (by omega))
                · obtain ⟨a, b, c, d⟩ := l2 q e
                  refine ⟨a, b, ?_, d⟩
                  refine Nat.le_trans c ?_
                  split
                  · rename_i h; rw [if_pos (by simp only [List.map_append, List.mem_append]; exact .inl h)]; exact Nat.le_refl _
                  · omega
          have hfin := key t.puts.length (Nat.le_refl _)
          rw [List.take_length] at hfin
          refine ⟨ok.1, by rw [Nat.succ_mul]; exact Nat.le_trans hfin.1 (Nat.add_le_add ok.2.1 hn), fun q hq => ?_⟩
          obtain ⟨a, b, c, d⟩ := hfin.2 q hq
          refine ⟨a, b, Nat.le_trans c ?_, d⟩
          split <;> omega
def lastT (l : List Put) : Int := (l.getLastD ⟨0, []⟩).lba
def hitV (e : Ext) (after : Int) (q : Int × List Put) : Bool := decide (e.first ≤ q.1) && decide (q.1 - e.first < e.len) && decide (after < lastT q.2)
def XMap.written (M : XMap) (e : Ext) (after : Int) : Bool := may e && M.vers.any (hitV e after)
/-- The map laid open for a range over it. -/
theorem slmapA_iter {β : Type} {A : SV → β → HP} {r : Nat} {l : List (Int × β)} {R : HP} {w : World} (h : Sat (slmapA A r l * R) w) : ∃ es clock, ∃ xs : List (Int × (SV × β)), MapOk es clock ∧ on2 Prod.snd xs = l ∧
    (∀ e ∈ es, ∃ s b, (e.k, (s, b)) ∈ xs ∧ e.v = slv s) ∧ (∀ q ∈ l, ∃ e ∈ es, ∃ s, e.k = q.1 ∧ (e.k, (s, q.2)) ∈ xs) ∧ (∀ k x y, (k, x) ∈ xs → (k, y) ∈ xs → x = y) ∧ Sat (mapE r es clock * (all xs (fun x => A x.2.1 x.2.2) * R)) w ∧
    (∀ R' w', Sat (mapE r es clock * (all xs (fun x => A x.2.1 x.2.2) * R')) w' → Sat (slmapA A r l * R') w') := by
  obtain ⟨xs, rfl, h1⟩ := slmapA_open h
  obtain ⟨es, clock, ok, hkv, h2⟩ := mapA_open h1
  have hnd : (xs.map Prod.fst).Nodup := by
    have := ok.nodup
    rw [hkv, keys_on2] at this
    exact this
  refine ⟨es, clock, xs, ok, rfl, fun e he => ?_, fun q hq => ?_, fun k x y hx hy => ?_, h2, fun R' w' h' => ?_⟩
  · have : (e.k, e.v) ∈ kvs es := List.mem_map.2 ⟨e, he, rfl⟩
    rw [hkv] at this
    obtain ⟨x, hx, e1⟩ := List.mem_map.1 this
    simp only [Prod.mk.injEq] at e1
    exact ⟨x.2.1, x.2.2, by rw [← e1.1]; exact hx, e1.2.symm⟩
  · obtain ⟨x, hx, rfl⟩ := List.mem_map.1 hq
    have : (x.1, slv x.2.1) ∈ kvs es := by rw [hkv]; exact List.mem_map.2 ⟨x, hx, rfl⟩
    obtain ⟨e, he, e1⟩ := List.mem_map.1 this
    simp only [Prod.mk.injEq] at e1
    exact ⟨e, he, x.2.1, e1.1, by rw [e1.1]; exact hx⟩
  · have a := lkp_of_mem hnd hx
    have b := lkp_of_mem hnd hy
    rw [a] at b; exact Option.some.inj b
  · refine slmapA_close ?_
    have := mapA_close h' ok
    rw [hkv] at this
    exact this
end Go.Mo
