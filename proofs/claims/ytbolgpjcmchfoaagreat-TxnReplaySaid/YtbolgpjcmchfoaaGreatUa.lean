/- Rows that nobody writes any more: read, copied, built. -/
import Derived.Test.YtbolgpjcmchfoaaGreatS
import Derived.Test.YtbolgpjcmchfoaaGreatF4
namespace Go.Proofs.YtbolgpjcmchfoaaGreat
open Go Go.Vc Go.Sl Go.Mo
theorem add_add (a : Addr) (i j : Nat) : (a.add i).add j = a.add (i + j) := by
  unfold Addr.add
  by_cases h0 : i = 0
  · subst h0; simp
  · by_cases h1 : j = 0
    · subst h1; simp [h0]
    · simp [h0, h1]; omega
/-- A row that all may read. -/
structure KRow (F : Heap → Prop) (sz : Nat) (s : SV) (vs : List Value) : Prop where
  len : vs.length = s.n * sz
  cap : s.n ≤ s.c
  on : ∀ h, F h → rowOn h s vs
theorem KRow.more {F G : Heap → Prop} {sz : Nat} {s : SV} {vs : List Value} (h : KRow F sz s vs) (hg : ∀ h, G h → F h) : KRow G sz s vs := ⟨h.len, h.cap, fun g hh => h.on g (hg g hh)⟩
theorem KRow.nil {F : Heap → Prop} {sz : Nat} : KRow F sz ⟨none, 0, 0⟩ [] := ⟨by simp, Nat.le_refl _, fun h _ => ⟨fun _ => rfl, fun ad e => by cases e⟩⟩
theorem flat_len {α : Type} {C : α → List Value} {sz : Nat} (hC : ∀ x, (C x).length = sz) : ∀ l : List α, (l.flatMap C).length = l.length * sz
  | [] => by simp
  | x :: r => by rw [List.flatMap_cons, List.length_append, hC, flat_len hC r, List.length_cons, Nat.succ_mul]; omega
theorem flat_get {α : Type} {C : α → List Value} {sz : Nat} (hC : ∀ x, (C x).length = sz) : ∀ (l : List α) (i k : Nat) (hi : i < l.length), k < sz → (l.flatMap C)[i * sz + k]? = (C l[i])[k]?
  | x :: r, 0, k, _, hk => by
    simp only [List.flatMap_cons, Nat.zero_mul, Nat.zero_add, List.getElem_cons_zero]
    rw [List.getElem?_append_left (by rw [hC]; exact hk)]
  | x :: r, i + 1, k, hi, hk => by
    simp only [List.flatMap_cons, List.getElem_cons_succ]
    rw [List.getElem?_append_right (by rw [hC, Nat.succ_mul]; omega), hC, Nat.succ_mul]
    rw [show i * sz + sz + k - sz = i * sz + k from by omega]
    exact flat_get hC r i k (by simpa using hi) hk
theorem flat_all {α : Type} {C : α → List Value} (h1 : ∀ x, (C x).all Vc.one = true) (l : List α) : (l.flatMap C).all Vc.one = true := by
  induction l with
  | nil => rfl
  | cons x r ih => rw [List.flatMap_cons, List.all_append, h1, ih]; rfl
theorem KRow.n {α : Type} {F : Heap → Prop} {C : α → List Value} {sz : Nat} {s : SV} {l : List α} (hk : KRow F sz s (l.flatMap C)) (hC : ∀ x, (C x).length = sz) (h0 : 0 < sz) : s.n = l.length := by
  have := hk.len
  rw [flat_len hC] at this
  exact (Nat.eq_of_mul_eq_mul_right h0 this).symm
theorem KRow.get {α : Type} {F : Heap → Prop} {C : α → List Value} {sz : Nat} {s : SV} {l : List α} {h : Heap} (hk : KRow F sz s (l.flatMap C)) (hC : ∀ x, (C x).length = sz) (h0 : 0 < sz) (hh : F h) {i : Nat} (hi : i < l.length) :
    ∃ ad, s.a = some ad ∧ cellH h (ad.add (i * sz)) = (C l[i])[0]? ∧ ∀ k, k < sz → cellH h ((ad.add (i * sz)).add k) = (C l[i])[k]? := by
  have hr := hk.on h hh
  have hl := flat_len hC l
  have hlt : ∀ k, k < sz → i * sz + k < (l.flatMap C).length := fun k hk => by
    rw [hl]
    calc i * sz + k < i * sz + sz := by omega
      _ = (i + 1) * sz := by rw [Nat.succ_mul]
      _ ≤ l.length * sz := Nat.mul_le_mul_right _ hi
  cases ha : s.a with
  | none =>
    have := hr.1 ha
    have h2 := hlt 0 h0
    rw [this] at h2; simp at h2
  | some ad =>
    have key : ∀ k, k < sz → cellH h (ad.add (i * sz + k)) = (C l[i])[k]? := fun k hk' => by
      rw [hr.2 ad ha _ (hlt k hk'), ← List.getElem?_eq_getElem, flat_get hC l i k hi hk']
    refine ⟨ad, rfl, by simpa using key 0 h0, fun k hk' => by rw [add_add]; exact key k hk'⟩
theorem freeze {sz : Nat} {s : SV} {vs : List Value} {F : Heap → Prop} {R : HP} {w : World} (hF : Mono F) (h : Sat (ownS sz s vs * (pool F * R)) w) : ∃ F' : Heap → Prop, Mono F' ∧ (∀ h, F' h → F h) ∧ KRow F' sz s vs ∧ Sat (pool F' * R) w := by
  have hl := ownS_length h
  have hc := ownS_cap h
  obtain ⟨w1, h1, h2, h3⟩ := pool_take hF h
  refine ⟨_, h2, fun h hh => hh.2, ⟨hl, hc, fun g hg => rowOn_leC hg.1 ?_⟩, h3⟩
  obtain ⟨g1, hg1, ha⟩ := h1
  exact rowOn_le hg1 (ownS_on ha)
/-- Bytes of one's own are given to all. -/
theorem freezeB {s : SV} {l : List UInt8} {F : Heap → Prop} {R : HP} {w : World} (hF : Mono F) (h : Sat (byteRow s l * (pool F * R)) w) : ∃ F' : Heap → Prop, Mono F' ∧ (∀ h, F' h → F h) ∧ (∀ h, F' h → bytesOn h s l) ∧ Sat (pool F' * R) w := by
  obtain ⟨F', h1, h2, h3, h4⟩ := freeze hF h
  have hb := byteRow_on h.left
  exact ⟨F', h1, h2, fun g hg => ⟨hb.1, h3.on g hg⟩, h4⟩
theorem st_freeze {sz : Nat} {s : SV} {vs : List Value} {F : Heap → Prop} {r : List HP} {w : World} (hF : Mono F) (h : St (pool F :: r) w) (i : Nat) (e : r[i]? = some (ownS sz s vs)) : ∃ F' : Heap → Prop, Mono F' ∧ (∀ h, F' h → F h) ∧ KRow F' sz s vs ∧ St (pool F' :: r.eraseIdx i) w := by
  unfold St at h
  rw [big_cons, big_erase r i e] at h
  obtain ⟨F', a, b, c, d⟩ := freeze (R := bigS (r.eraseIdx i)) hF (h.eq (by ac_rfl))
  exact ⟨F', a, b, c, d⟩
/-! ### Reading rows -/
section
variable {F : Heap → Prop} {w : World}
theorem KRow.at {sz : Nat} {s : SV} {vs : List Value} (hk : KRow F sz s vs) (hh : F (hp w)) (h0 : 0 < vs.length) : ∃ ad, s.a = some ad ∧ (∀ j v, vs[j]? = some v → w.cell? (ad.add j) = some v) ∧ ∀ j k v, vs[j + k]? = some v → w.cell? ((ad.add j).add k) = some v := by
  have hr := hk.on _ hh
  cases ha : s.a with
  | none => rw [hr.1 ha] at h0; simp at h0
  | some ad =>
    have key : ∀ j v, vs[j]? = some v → w.cell? (ad.add j) = some v := fun j v hv => by
      have hlt := lt_of_get hv
      rw [List.getElem?_eq_getElem hlt] at hv
      cases hv
      exact hr.2 ad ha j hlt
    exact ⟨ad, rfl, key, fun j k v hv => by rw [add_add]; exact key _ _ hv⟩
abbrev KInts (F : Heap → Prop) (s : SV) (l : List Int) : Prop := KRow F 1 s (l.map intv)
theorem KInts.n {s : SV} {l : List Int} (h : KInts F s l) : s.n = l.length := by
  have := h.len
  rw [List.length_map] at this; omega
theorem KInts.get {s : SV} {l : List Int} (h : KInts F s l) (hh : F (hp w)) {i : Nat} (hi : i < l.length) : ∃ ad, s.a = some ad ∧ w.cell? (ad.add (i * 1)) = some (.int .i64 l[i]) := by
  obtain ⟨ad, ha, hc, _⟩ := KRow.at h hh (by rw [List.length_map]; omega)
  refine ⟨ad, ha, hc _ _ ?_⟩
  rw [Nat.mul_one, List.getElem?_map, List.getElem?_eq_getElem hi]; rfl
abbrev KExts (F : Heap → Prop) (s : SV) (l : List Ext) : Prop := KRow F 2 s (l.flatMap encE)
theorem KExts.get {s : SV} {l : List Ext} (h : KExts F s l) (hh : F (hp w)) {i : Nat} (hi : i < l.length) : ∃ ad, s.a = some ad ∧ w.cell? (ad.add (i * 2)) = some (.int .i64 l[i].first) ∧ w.cell? ((ad.add (i * 2)).add 1) = some (.int .i64 l[i].len) := by
  have hC : ∀ x : Ext, (encE x).length = 2 := fun _ => rfl
  obtain ⟨ad, ha, h0, hc⟩ := KRow.get h hC (by omega) hh hi
  exact ⟨ad, ha, h0, hc 1 (by omega)⟩
theorem KExts.n {s : SV} {l : List Ext} (h : KExts F s l) : s.n = l.length := KRow.n h (fun _ => rfl) (by omega)
/-! puts -/
def putC (x : SV × Put) : List Value := [.int .i64 x.2.lba, slv x.1]
def KPuts (F : Heap → Prop) (s : SV) (l : List Put) : Prop := ∃ xs : List (SV × Put), xs.map Prod.snd = l ∧ KRow F 2 s (xs.flatMap putC) ∧ ∀ x ∈ xs, Known F (x.1, x.2.data)
theorem KPuts.n {s : SV} {l : List Put} (h : KPuts F s l) : s.n = l.length := by
  obtain ⟨xs, rfl, a, _⟩ := h
  rw [KRow.n a (fun _ => rfl) (by omega), List.length_map]
theorem KPuts.more {G : Heap → Prop} {s : SV} {l : List Put} (h : KPuts F s l) (hg : ∀ h, G h → F h) : KPuts G s l := by
  obtain ⟨xs, e, a, b⟩ := h
  exact ⟨xs, e, a.more hg, fun x hx h hh => b x hx h (hg h hh)⟩
theorem KPuts.nil : KPuts F ⟨none, 0, 0⟩ [] := ⟨[], rfl, KRow.nil, fun _ h => by simp at h⟩
theorem KPuts.cap {s : SV} {l : List Put} (h : KPuts F s l) : s.n ≤ s.c := by obtain ⟨xs, _, a, _⟩ := h; exact a.cap
theorem KPuts.get {s : SV} {l : List Put} (h : KPuts F s l) (hh : F (hp w)) {i : Nat} (hi : i < l.length) : ∃ ad d, s.a = some ad ∧ w.cell? (ad.add (i * 2)) = some (.int .i64 l[i].lba) ∧ w.cell? ((ad.add (i * 2)).add 1) = some (.slice d.a d.n d.c) ∧ Known F (d, l[i].data) := by
  obtain ⟨xs, rfl, a, b⟩ := h
  have hi' : i < xs.length := by simpa using hi
  obtain ⟨ad, ha, h0, hc⟩ := KRow.get a (fun _ => rfl) (by omega) hh hi'
  refine ⟨ad, xs[i].1, ha, by rw [List.getElem_map]; exact h0, hc 1 (by omega), ?_⟩
  rw [List.getElem_map]
  exact b _ (List.getElem_mem hi')
theorem KPuts.on {s : SV} {l : List Put} (h : KPuts F s l) (hh : F (hp w)) : putsOn (hp w) s l := ⟨h.n, fun i hi => by
  obtain ⟨ad, d, a, b, c, e⟩ := h.get hh hi
  exact ⟨ad, d, a, b, c, e _ hh⟩⟩
/-! transactions -/
def txC (x : SV × Tx) : List Value := [.int .i64 x.2.time, slv x.1]
def KTxs (F : Heap → Prop) (s : SV) (l : List Tx) : Prop := ∃ xs : List (SV × Tx), xs.map Prod.snd = l ∧ KRow F 2 s (xs.flatMap txC) ∧ ∀ x ∈ xs, KPuts F x.1 x.2.puts
theorem KTxs.n {s : SV} {l : List Tx} (h : KTxs F s l) : s.n = l.length := by
  obtain ⟨xs, rfl, a, _⟩ := h
  rw [KRow.n a (fun _ => rfl) (by omega), List.length_map]
theorem KTxs.more {G : Heap → Prop} {s : SV} {l : List Tx} (h : KTxs F s l) (hg : ∀ h, G h → F h) : KTxs G s l := by
  obtain ⟨xs, e, a, b⟩ := h
  exact ⟨xs, e, a.more hg, fun x hx => (b x hx).more hg⟩
theorem KTxs.nil : KTxs F ⟨none, 0, 0⟩ [] := ⟨[], rfl, KRow.nil, fun _ h => by simp at h⟩
theorem KTxs.cap {s : SV} {l : List Tx} (h : KTxs F s l) : s.n ≤ s.c := by obtain ⟨xs, _, a, _⟩ := h; exact a.cap
theorem KTxs.get {s : SV} {l : List Tx} (h : KTxs F s l) (hh : F (hp w)) {i : Nat} (hi : i < l.length) : ∃ ad d, s.a = some ad ∧ w.cell? (ad.add (i * 2)) = some (.int .i64 l[i].time) ∧ w.cell? ((ad.add (i * 2)).add 1) = some (.slice d.a d.n d.c) ∧ KPuts F d l[i].puts := by
  obtain ⟨xs, rfl, a, b⟩ := h
  have hi' : i < xs.length := by simpa using hi
  obtain ⟨ad, ha, h0, hc⟩ := KRow.get a (fun _ => rfl) (by omega) hh hi'
  refine ⟨ad, xs[i].1, ha, by rw [List.getElem_map]; exact h0, hc 1 (by omega), ?_⟩
  rw [List.getElem_map]
  exact b _ (List.getElem_mem hi')
theorem KTxs.on {s : SV} {l : List Tx} (h : KTxs F s l) (hh : F (hp w)) : txsOn (hp w) s l := ⟨h.n, fun i hi => by
  obtain ⟨ad, d, a, b, c, e⟩ := h.get hh hi
  exact ⟨ad, d, a, b, c, e.on hh⟩⟩
/-! versions -/
def verC (x : SV × (Int × Put)) : List Value := [.int .i64 x.2.1, .int .i64 x.2.2.lba, slv x.1]
def KVers (F : Heap → Prop) (s : SV) (l : List (Int × Put)) : Prop := ∃ xs : List (SV × (Int × Put)), xs.map Prod.snd = l ∧ KRow F 3 s (xs.flatMap verC) ∧ ∀ x ∈ xs, Known F (x.1, x.2.2.data)
theorem KVers.n {s : SV} {l : List (Int × Put)} (h : KVers F s l) : s.n = l.length := by
  obtain ⟨xs, rfl, a, _⟩ := h
  rw [KRow.n a (fun _ => rfl) (by omega), List.length_map]
theorem KVers.more {G : Heap → Prop} {s : SV} {l : List (Int × Put)} (h : KVers F s l) (hg : ∀ h, G h → F h) : KVers G s l := by
  obtain ⟨xs, e, a, b⟩ := h
  exact ⟨xs, e, a.more hg, fun x hx h hh => b x hx h (hg h hh)⟩
theorem KVers.nil : KVers F ⟨none, 0, 0⟩ [] := ⟨[], rfl, KRow.nil, fun _ h => by simp at h⟩
theorem KVers.get {s : SV} {l : List (Int × Put)} (h : KVers F s l) (hh : F (hp w)) {i : Nat} (hi : i < l.length) : ∃ ad d, s.a = some ad ∧ w.cell? (ad.add (i * 3)) = some (.int .i64 l[i].1) ∧ w.cell? ((ad.add (i * 3)).add 1) = some (.int .i64 l[i].2.lba) ∧ w.cell? ((ad.add (i * 3)).add 2) = some (.slice d.a d.n d.c) ∧ Known F (d, l[i].2.data) := by
  obtain ⟨xs, rfl, a, b⟩ := h
  have hi' : i < xs.length := by simpa using hi
  obtain ⟨ad, ha, h0, hc⟩ := KRow.get a (fun _ => rfl) (by omega) hh hi'
  refine ⟨ad, xs[i].1, ha, by rw [List.getElem_map]; exact h0, by rw [List.getElem_map]; exact hc 1 (by omega), hc 2 (by omega), ?_⟩
  rw [List.getElem_map]
  exact b _ (List.getElem_mem hi')
end
end Go.Proofs.YtbolgpjcmchfoaaGreat
