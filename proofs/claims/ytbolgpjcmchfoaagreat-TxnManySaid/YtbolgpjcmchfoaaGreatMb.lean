/- Lists and maps of slices that a function owns. -/
import Derived.Test.YtbolgpjcmchfoaaGreatMa
namespace Go.Mo
open Go Go.Vc Go.Sl
def slv (s : SV) : Value := .slice s.a s.n s.c
def byteRow (s : SV) (l : List UInt8) : HP := ownS 1 s (bytesV l)
theorem byteRow_on {s : SV} {l : List UInt8} {w : World} (h : Sat (byteRow s l) w) : bytesOn (hp w) s l := by
  have h1 : Sat (ownS 1 s (bytesV l) * 1) w := h.eq (mul_one' _).symm
  refine ⟨by have := ownS_length h1; simp [bytesV] at this; omega, ?_⟩
  obtain ⟨g, hg, ha⟩ := h
  exact rowOn_le hg (ownS_on ha)
theorem all_mem {α : Type} {l : List α} {A : α → HP} {w : World} {x : α} (hx : x ∈ l) (h : Sat (all l A) w) : Sat (A x) w := by
  induction l with
  | nil => simp at hx
  | cons y r ih =>
    rcases List.mem_cons.1 hx with e | e
    · subst e; exact h.left
    · exact ih e h.right
/-! ### Rows of pairs -/
theorem flat2_length {α : Type} (f g : α → Value) (xs : List α) : (xs.flatMap fun x => [f x, g x]).length = xs.length * 2 := by
  induction xs with
  | nil => rfl
  | cons x r ih => simp only [List.flatMap_cons, List.length_append, ih, List.length_cons, List.length_nil]; omega
theorem flat2_get {α : Type} (f g : α → Value) : ∀ (xs : List α) (i : Nat) (hi : i < xs.length), (xs.flatMap fun x => [f x, g x])[i * 2]? = some (f xs[i]) ∧ (xs.flatMap fun x => [f x, g x])[i * 2 + 1]? = some (g xs[i])
  | [], i, hi => by simp at hi
  | x :: r, 0, hi => by simp
  | x :: r, i + 1, hi => by
    have := flat2_get f g r i (by simpa using hi)
    simp only [List.flatMap_cons]
    rw [show (i + 1) * 2 = i * 2 + 2 from by omega]
    exact this
theorem flat2_one {α : Type} (f g : α → Value) (xs : List α) (hf : ∀ x, one (f x) = true) (hg : ∀ x, one (g x) = true) : (xs.flatMap fun x => [f x, g x]).all one = true := by
  induction xs with
  | nil => rfl
  | cons x r ih => simp [List.flatMap_cons, hf, hg]
/-- A row of pairs of a number and a slice, each slice's own part with it. -/
def pairsA {β : Type} (num : β → Int) (A : SV → β → HP) (s : SV) (l : List β) : HP :=
  ex fun xs : List (SV × β) => lift (xs.map Prod.snd = l) * (ownS 2 s (xs.flatMap fun x => [.int .i64 (num x.2), slv x.1]) * all xs fun x => A x.1 x.2)
section
variable {β : Type} {num : β → Int} {A : SV → β → HP}
theorem pairsA_open {s : SV} {l : List β} {R : HP} {w : World} (h : Sat (pairsA num A s l * R) w) : ∃ xs : List (SV × β), xs.map Prod.snd = l ∧ Sat (ownS 2 s (xs.flatMap fun x => [.int .i64 (num x.2), slv x.1]) * (all xs (fun x => A x.1 x.2) * R)) w := by
  simp only [pairsA, ex_mul, mul_assoc', sat_ex, sat_lift] at h
  exact h
theorem pairsA_close {s : SV} {xs : List (SV × β)} {R : HP} {w : World} (h : Sat (ownS 2 s (xs.flatMap fun x => [.int .i64 (num x.2), slv x.1]) * (all xs (fun x => A x.1 x.2) * R)) w) : Sat (pairsA num A s (xs.map Prod.snd) * R) w := by
  simp only [pairsA, ex_mul, mul_assoc', sat_ex, sat_lift]
  exact ⟨xs, rfl, h⟩
theorem pairsA_nil {s : SV} {R : HP} {w : World} (h : Sat R w) (hc : s.c = 0) (hn : s.n = 0) : Sat (pairsA num A s [] * R) w :=
  pairsA_close (xs := []) (ownS_nil (by simpa [all] using h) hc hn)
theorem pairsA_n {s : SV} {l : List β} {R : HP} {w : World} (h0 : Sat (pairsA num A s l * R) w) : s.n = l.length := by
  obtain ⟨xs, rfl, h⟩ := pairsA_open h0
  have := ownS_length h
  rw [flat2_length] at this
  simp; omega
/-- The i-th pair. -/
theorem pairsA_get {s : SV} {l : List β} {R : HP} {w : World} (h0 : Sat (pairsA num A s l * R) w) {i : Nat} (hi : i < l.length) : ∃ b d, s.a = some ⟨b, 0, none⟩ ∧ w.cell? ⟨b, i * 2, none⟩ = some (.int .i64 (num l[i])) ∧ w.cell? ⟨b, i * 2 + 1, none⟩ = some (slv d) ∧ Sat (A d l[i]) w := by
  obtain ⟨xs, rfl, h⟩ := pairsA_open h0
  have hi' : i < xs.length := by simpa using hi
  have hl := flat2_length (fun x : SV × β => .int .i64 (num x.2)) (fun x => slv x.1) xs
  obtain ⟨g1, g2⟩ := flat2_get (fun x : SV × β => .int .i64 (num x.2)) (fun x => slv x.1) xs i hi'
  obtain ⟨b, hb, hc⟩ := ownS_cell h (i := i * 2) (by rw [hl]; omega)
  refine ⟨b, xs[i].1, hb, ?_, ?_, ?_⟩
  · rw [hc (i * 2) (by rw [hl]; omega), ← List.getElem?_eq_getElem, g1]; simp
  · rw [hc (i * 2 + 1) (by rw [hl]; omega), ← List.getElem?_eq_getElem, g2]
  · have := all_mem (List.getElem_mem hi') h.right.left
    simpa using this
/-- One more. -/
theorem pairsA_push {s : SV} {l : List β} {d : SV} {x : β} {bytes e b : Nat} {z : List Value} {R : HP} {w : World} {K : SV → World → Prop} (h0 : Sat (pairsA num A s l * (A d x * R)) w)
    (hc : w.cell? ⟨b, 0, none⟩ = some (.int .i64 (num x)) ∧ w.cell? ⟨b, 1, none⟩ = some (slv d)) (hcap : (l.length + 1) * bytes ≤ 2 ^ 44) (hby : 0 < bytes ∧ bytes ≤ 2 ^ 20) (hz : z.length = 2)
    (hk : ∀ s' w', Sat (pairsA num A s' (l ++ [x]) * R) w' → K s' w') : appendR s ⟨some ⟨b, 0, none⟩, 1, 1⟩ 2 bytes z e w K := by
  have hn := pairsA_n h0
  obtain ⟨xs, rfl, h⟩ := pairsA_open h0
  refine append_own (news := [.int .i64 (num x), slv d]) h rfl rfl (fun ad had => ?_) (fun hno => by cases hno) (by rw [hn]; exact hcap) hby hz fun s' w' hs' hw' => ?_
  · cases had
    exact ⟨hc.1, hc.2⟩
  · refine hk s' w' ?_
    have e : xs.map Prod.snd ++ [x] = (xs ++ [(d, x)]).map Prod.snd := by simp
    rw [e]
    refine pairsA_close ?_
    rw [all_append]
    simp only [List.flatMap_append, List.flatMap_cons, List.flatMap_nil, List.append_nil, all, mul_one']
    exact hw'.eq (by ac_rfl)
end
def putsA : SV → List Put → HP := pairsA Put.lba fun s x => byteRow s x.data
def txsA : SV → List Tx → HP := pairsA Tx.time fun s x => putsA s x.puts
theorem putsA_on {s : SV} {l : List Put} {w : World} (h : Sat (putsA s l) w) : putsOn (hp w) s l := by
  have h1 : Sat (putsA s l * 1) w := h.eq (mul_one' _).symm
  refine ⟨pairsA_n h1, fun i hi => ?_⟩
  obtain ⟨b, d, hb, h2, h3, h4⟩ := pairsA_get h1 hi
  exact ⟨⟨b, 0, none⟩, d, hb, by rw [add_mk, Nat.zero_add]; exact h2, by rw [add_mk, add_mk, Nat.zero_add]; exact h3, byteRow_on h4⟩
theorem txsA_on {s : SV} {l : List Tx} {w : World} (h : Sat (txsA s l) w) : txsOn (hp w) s l := by
  have h1 : Sat (txsA s l * 1) w := h.eq (mul_one' _).symm
  refine ⟨pairsA_n h1, fun i hi => ?_⟩
  obtain ⟨b, d, hb, h2, h3, h4⟩ := pairsA_get h1 hi
  exact ⟨⟨b, 0, none⟩, d, hb, by rw [add_mk, Nat.zero_add]; exact h2, by rw [add_mk, add_mk, Nat.zero_add]; exact h3, putsA_on h4⟩

/-! ### Maps of slices -/
section
variable {α : Type}
theorem all_take {xs : List (Int × α)} {k : Int} {v : α} {A : Int × α → HP} (h : lkp xs k = some v) : all xs A = A (k, v) * all (del xs k) A := by
  induction xs with
  | nil => cases h
  | cons p r ih =>
    obtain ⟨i, x⟩ := p
    simp only [lkp] at h
    simp only [del]
    by_cases e : k = i
    · rw [if_pos e] at h ⊢
      cases h; subst e; rfl
    · rw [if_neg e] at h ⊢
      simp only [all, ih h]; ac_rfl
theorem all_put {xs : List (Int × α)} {k : Int} {v : α} {A : Int × α → HP} : all (put xs k v) A = A (k, v) * all (del xs k) A := by
  induction xs with
  | nil => simp [put, del, all]
  | cons p r ih =>
    obtain ⟨i, x⟩ := p
    simp only [put, del]
    by_cases e : k = i
    · rw [if_pos e, if_pos e]; subst e; rfl
    · rw [if_neg e, if_neg e]
      simp only [all, ih]; ac_rfl
theorem del_none {xs : List (Int × α)} {k : Int} (h : lkp xs k = none) : del xs k = xs := by
  induction xs with
  | nil => rfl
  | cons p r ih =>
    simp only [lkp] at h
    simp only [del]
    by_cases e : k = p.1
    · rw [if_pos e] at h; cases h
    · rw [if_neg e] at h ⊢; rw [ih h]
theorem Sat.all_del {xs : List (Int × α)} {A : Int × α → HP} {R : HP} {w : World} (h : Sat (all xs A * R) w) (k : Int) : Sat (all (del xs k) A * R) w := by
  cases e : lkp xs k with
  | none => rw [del_none e]; exact h
  | some v => rw [all_take e, mul_assoc'] at h; exact h.right
end
/-- A map whose values are slices, each with what it owns. -/
def slmapA {β : Type} (A : SV → β → HP) (r : Nat) (l : List (Int × β)) : HP :=
  ex fun xs : List (Int × (SV × β)) => lift (on2 Prod.snd xs = l) * (mapA r (on2 (fun x => slv x.1) xs) * all xs fun x => A x.2.1 x.2.2)
section
variable {β : Type} {A : SV → β → HP}
theorem slmapA_open {r : Nat} {l : List (Int × β)} {R : HP} {w : World} (h : Sat (slmapA A r l * R) w) : ∃ xs : List (Int × (SV × β)), on2 Prod.snd xs = l ∧ Sat (mapA r (on2 (fun x => slv x.1) xs) * (all xs (fun x => A x.2.1 x.2.2) * R)) w := by
  simp only [slmapA, ex_mul, mul_assoc', sat_ex, sat_lift] at h
  exact h
theorem slmapA_close {r : Nat} {xs : List (Int × (SV × β))} {R : HP} {w : World} (h : Sat (mapA r (on2 (fun x => slv x.1) xs) * (all xs (fun x => A x.2.1 x.2.2) * R)) w) : Sat (slmapA A r (on2 Prod.snd xs) * R) w := by
  simp only [slmapA, ex_mul, mul_assoc', sat_ex, sat_lift]
  exact ⟨xs, rfl, h⟩
theorem slmapA_new {R : HP} {w : World} (h : Sat R w) : Sat (slmapA A w.heap.size [] * R) (w.alloc (.map #[] 0)) :=
  slmapA_close (xs := []) ((mapA_new h).eq (by simp [on2, all]))
theorem keys_on2 {γ : Type} (f : β → γ) (l : List (Int × β)) : (on2 f l).map Prod.fst = l.map Prod.fst := by simp [on2, Function.comp_def]
theorem slmapA_nodup {r : Nat} {l : List (Int × β)} {R : HP} {w : World} (h0 : Sat (slmapA A r l * R) w) : (l.map Prod.fst).Nodup := by
  obtain ⟨xs, rfl, h⟩ := slmapA_open h0
  have := mapA_nodup h
  rw [keys_on2] at this ⊢
  exact this
/-- What a lkp-up finds. -/
theorem slmapA_get {r : Nat} {l : List (Int × β)} {R : HP} {w : World} (h0 : Sat (slmapA A r l * R) w) : ∃ es, (∃ cl, mapAt w r .i64 es cl) ∧ es.length = l.length ∧
    ∀ k, (lkp l k = none ∧ findE es k = none) ∨ ∃ s b, lkp l k = some b ∧ findE es k = some (slv s) ∧ Sat (A s b) w := by
  obtain ⟨xs, rfl, h⟩ := slmapA_open h0
  obtain ⟨es, hcl, hf, hlen⟩ := mapA_get h
  refine ⟨es, hcl, by simpa [length_on2] using hlen, fun k => ?_⟩
  rw [hf k, lkp_on2, lkp_on2]
  cases e : lkp xs k with
  | none => exact .inl ⟨rfl, rfl⟩
  | some v => exact .inr ⟨v.1, v.2, rfl, rfl, all_mem (A := fun x : Int × (SV × β) => A x.2.1 x.2.2) (lkp_mem e) h.right.left⟩
/-- One is taken out, to be put back. -/
theorem slmapA_take {r : Nat} {l : List (Int × β)} {R : HP} {w : World} (h0 : Sat (slmapA A r l * R) w) {k : Int} {b : β} (hk : lkp l k = some b) : ∃ s H, (∃ es, (∃ cl, mapAt w r .i64 es cl) ∧ findE es k = some (slv s)) ∧ Sat (A s b * (H * R)) w ∧
    ∀ R' w' s' b', Sat (A s' b' * (H * R')) w' → ∃ es cl, mapAt w' r .i64 es cl ∧ Sat (slmapA A r (put l k b') * R') (World.setObj w' r (.map (entries .i64 (putM es cl k (slv s'))) (putClock es cl k))) := by
  obtain ⟨xs, rfl, h⟩ := slmapA_open h0
  rw [lkp_on2] at hk
  cases e : lkp xs k with
  | none => rw [e] at hk; cases hk
  | some v =>
    rw [e] at hk; cases hk
    obtain ⟨es, hcl, hf, hlen⟩ := mapA_get h
    refine ⟨v.1, mapA r (on2 (fun x => slv x.1) xs) * all (del xs k) fun x => A x.2.1 x.2.2, ⟨es, hcl, by rw [hf, lkp_on2, e]; rfl⟩, ?_, fun R' w' s' b' h' => ?_⟩
    · rw [all_take e] at h
      exact h.eq (by ac_rfl)
    · have h1 : Sat (mapA r (on2 (fun x => slv x.1) xs) * (A s' b' * (all (del xs k) (fun x => A x.2.1 x.2.2) * R'))) w' := h'.eq (by ac_rfl)
      obtain ⟨es', cl', hm', _, h2⟩ := mapA_put h1 k (slv s')
      refine ⟨es', cl', hm', ?_⟩
      rw [put_on2 Prod.snd xs k (s', b')]
      refine slmapA_close ?_
      rw [all_put]
      refine h2.eq ?_
      rw [put_on2 (fun x : SV × β => slv x.1) xs k (s', b')]
      ac_rfl
/-- One is put in, whatever was there. -/
theorem slmapA_put {r : Nat} {l : List (Int × β)} {R : HP} {w : World} {s : SV} {b : β} (k : Int) (h0 : Sat (slmapA A r l * (A s b * R)) w) : ∃ es cl, mapAt w r .i64 es cl ∧ Sat (slmapA A r (put l k b) * R) (World.setObj w r (.map (entries .i64 (putM es cl k (slv s))) (putClock es cl k))) := by
  obtain ⟨xs, rfl, h⟩ := slmapA_open h0
  have h1 : Sat (mapA r (on2 (fun x => slv x.1) xs) * (A s b * (all (del xs k) (fun x => A x.2.1 x.2.2) * R))) w := by
    have h0 : Sat (all xs (fun x => A x.2.1 x.2.2) * (mapA r (on2 (fun x => slv x.1) xs) * (A s b * R))) w := h.eq (by ac_rfl)
    exact (Sat.all_del h0 k).eq (by ac_rfl)
  obtain ⟨es', cl', hm', _, h2⟩ := mapA_put h1 k (slv s)
  refine ⟨es', cl', hm', ?_⟩
  rw [put_on2 Prod.snd xs k (s, b)]
  refine slmapA_close ?_
  rw [all_put]
  refine h2.eq ?_
  rw [put_on2 (fun x : SV × β => slv x.1) xs k (s, b)]
  ac_rfl
/-- The map laid open at one key: what stands there (or an empty slice), and how another is put there. -/
theorem slmapA_hole {r : Nat} {l : List (Int × β)} {d0 : β} {R : HP} {w : World} (hnil : ∀ (R : HP) (w : World), Sat R w → Sat (A ⟨none, 0, 0⟩ d0 * R) w) (h : Sat (slmapA A r l * R) w) (k : Int) :
    ∃ es clock H sv, (findE es k).getD (.slice none 0 0) = slv sv ∧ Sat (mapE r es clock * (A sv ((lkp l k).getD d0) * (H * R))) w ∧
      ∀ R' w' s' b', Sat (mapE r es clock * (A s' b' * (H * R'))) w' → mapAt w' r .i64 es clock ∧ Sat (slmapA A r (put l k b') * R') (World.setObj w' r (.map (entries .i64 (putM es clock k (slv s'))) (putClock es clock k))) := by
  obtain ⟨xs, rfl, h1⟩ := slmapA_open h
  obtain ⟨es, clock, ok, hkv, h2⟩ := mapA_open h1
  have hput : ∀ R' w' s' b', Sat (mapE r es clock * (A s' b' * ((all (del xs k) fun x => A x.2.1 x.2.2) * R'))) w' → mapAt w' r .i64 es clock ∧ Sat (slmapA A r (put (on2 Prod.snd xs) k b') * R') (World.setObj w' r (.map (entries .i64 (putM es clock k (slv s'))) (putClock es clock k))) := by
    intro R' w' s' b' h'
    refine ⟨mapE_at h', ?_⟩
    rw [put_on2 Prod.snd xs k (s', b')]
    refine slmapA_close ?_
    rw [all_put]
    have h3 := mapA_close (Sat.setObj h' (.map (entries .i64 (putM es clock k (slv s'))) (putClock es clock k))) (ok.put k (slv s'))
    rw [kvs_put, hkv, put_on2 (fun x : SV × β => slv x.1) xs k (s', b')] at h3
    exact h3.eq (by ac_rfl)
  have hf : findE es k = (lkp xs k).map fun x => slv x.1 := by rw [findE_kvs, hkv, lkp_on2]
  cases e : lkp xs k with
  | none =>
    refine ⟨es, clock, _, ⟨none, 0, 0⟩, by rw [hf, e]; rfl, ?_, hput⟩
    rw [lkp_on2, e, del_none e]
    exact (hnil _ _ h2).eq (by simp only [Option.map_none, Option.getD_none]; ac_rfl)
  | some v =>
    refine ⟨es, clock, _, v.1, by rw [hf, e]; rfl, ?_, hput⟩
    rw [all_take e] at h2
    rw [lkp_on2, e]
    exact h2.eq (by simp only [Option.map_some, Option.getD_some]; ac_rfl)
end
end Go.Mo
