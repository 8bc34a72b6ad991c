/- What an argument that is rows of things reads as: only that it is such a row. -/
import Derived.Test.YtbolgpjcmchfoaaGreatD
import Derived.ChangeArms
import Derived.ChangeShapes
import Derived.OpenShut
namespace Go.Proofs.YtbolgpjcmchfoaaGreat
open Go Go.Vc Go.Sl Go.Mo
theorem range_filter {α : Type} (f : Nat → Option α) : ∀ (len : Nat), (∀ i, i < len → ∃ z, f i = some z) → ((List.range len).filterMap f).length = len ∧ ∀ i (hi : i < ((List.range len).filterMap f).length), some ((List.range len).filterMap f)[i] = f i
  | 0, _ => by simp
  | k + 1, h => by
    obtain ⟨h1, h2⟩ := range_filter f k fun i hi => h i (by omega)
    obtain ⟨z, hz⟩ := h k (by omega)
    have e : (List.range (k + 1)).filterMap f = (List.range k).filterMap f ++ [z] := by
      rw [List.range_succ, List.filterMap_append, List.filterMap_cons, hz]; rfl
    simp only [e]
    refine ⟨by simp [h1], fun i hi => ?_⟩
    rw [List.getElem_append]
    split
    · rename_i hlt; exact h2 i hlt
    · rename_i hge
      simp only [List.length_append, List.length_singleton, h1] at hi hge
      obtain rfl : i = k := by omega
      simp [hz]
section
variable {H : Type} {enc : TypeId × Value → H} {P : Program} {w : World} {base : Nat} {spare : Nat → Bool} {held : Bool}
theorem slice_open {α : Type} {t e : TypeId} {sz : Nat} {Q : List Value → α → Prop} {fuel : Nat} {cs : List Value} {x : DataW H × List MemPlace} (ht : P.underlying t = some (.slice e)) (hsz : P.cellsOf e = sz)
    (hel : ∀ n cs x, DataW.trod enc P w base spare held n e cs = some x → ∃ y : α, Q cs y) (h : DataW.trod enc P w base spare held fuel t cs = some x) :
    ∃ (s : SV) (l : List α), cs = [.slice s.a s.n s.c] ∧ s.n ≤ s.c ∧ s.c ≤ maxLen ∧ s.n = l.length ∧ ∀ i (hi : i < l.length), ∃ ad cs', s.a = some ad ∧ cs'.length = sz ∧ (∀ j, j < sz → w.cell? ((ad.add (i * sz)).add j) = cs'[j]?) ∧ Q cs' l[i] := by
  rcases DataW.trod_slice ht h with ⟨h0, _⟩ | ⟨a, len, cap, elems, rest, n, _, hcs, _, _, hlc, hcm, hlen, hel', _, _⟩
  · exact ⟨⟨none, 0, 0⟩, [], h0, Nat.le_refl _, by simp, rfl, fun i hi => by simp at hi⟩
  · have key : ∀ i, ∃ y : Option α, i < len → ∃ cs' z, y = some z ∧ cs'.length = sz ∧ (∀ j, j < sz → w.cell? ((a.add (i * sz)).add j) = cs'[j]?) ∧ Q cs' z := fun i => by
      by_cases hi : i < len
      · have h1 := hel' i hi
        rw [hsz] at h1
        rw [List.getElem?_eq_getElem (by omega)] at h1
        obtain ⟨cs', hc, ht'⟩ := Option.bind_eq_some_iff.1 h1
        obtain ⟨_, hl', hcell⟩ := World.cells?_some hc
        obtain ⟨z, hz⟩ := hel n cs' _ ht'
        exact ⟨some z, fun _ => ⟨cs', z, rfl, hl', hcell, hz⟩⟩
      · exact ⟨none, fun h => absurd h hi⟩
    obtain ⟨f, hf⟩ := Classical.axiomOfChoice key
    have hl := range_filter f len fun i hi => let ⟨_, z, hz, _⟩ := hf i hi; ⟨z, hz⟩
    refine ⟨⟨some a, len, cap⟩, (List.range len).filterMap f, hcs, hlc, hcm, hl.1.symm, fun i hi => ?_⟩
    have hi' : i < len := by rw [hl.1] at hi; exact hi
    obtain ⟨cs', z, hz, a1, a2, a3⟩ := hf i hi'
    have := hl.2 i hi
    rw [hz] at this
    exact ⟨a, cs', rfl, a1, a2, by rw [Option.some.inj this]; exact a3⟩
/-- A row of bytes. -/
def BytesArg (w : World) (cs : List Value) (l : List UInt8) : Prop := ∃ s : SV, cs = [.slice s.a s.n s.c] ∧ s.n ≤ s.c ∧ s.c ≤ maxLen ∧ bytesOn (hp w) s l
theorem bytes_open {t e : TypeId} (ht : P.underlying t = some (.slice e)) (he : P.underlying e = some (.int .u8)) (hsz : P.cellsOf e = 1) (n : Nat) (cs : List Value) (x : DataW H × List MemPlace) (h : DataW.trod enc P w base spare held n t cs = some x) : ∃ l, BytesArg w cs l := by
  obtain ⟨s, l, h1, h2, h3, h4, h5⟩ := slice_open (α := UInt8) (sz := 1) (Q := fun cs b => cs = [.int .u8 b.toNat]) ht hsz (fun n cs x hx => by
    obtain ⟨k, rfl, _, hw⟩ := DataW.trod_int he hx
    have := bounds_u8 hw
    refine ⟨UInt8.ofNat k.toNat, ?_⟩
    have : (UInt8.ofNat k.toNat).toNat = k.toNat := by simp [UInt8.toNat_ofNat']; omega
    rw [this]; congr 2; omega) h
  refine ⟨l, s, h1, h2, h3, h4, fun hn => ?_, fun ad had i hi => ?_⟩
  · cases l with
    | nil => rfl
    | cons b r => obtain ⟨ad, _, e, _⟩ := h5 0 (by simp); rw [hn] at e; cases e
  · have hi' : i < l.length := by simpa [bytesV] using hi
    obtain ⟨ad', cs', e, a1, a2, a3⟩ := h5 i hi'
    rw [had] at e; cases e
    have := a2 0 (by omega)
    rw [a3] at this
    simp only [Nat.mul_one] at this
    have e0 : (ad.add i).add 0 = ad.add i := by unfold Addr.add; simp
    rw [e0] at this
    show w.cell? (ad.add i) = _
    simpa [bytesV] using this
def PutsArg (w : World) (cs : List Value) (l : List Put) : Prop := ∃ s : SV, cs = [.slice s.a s.n s.c] ∧ s.n ≤ s.c ∧ s.c ≤ maxLen ∧ putsOn (hp w) s l ∧ ∀ p ∈ l, (-9223372036854775808 ≤ p.lba ∧ p.lba ≤ 9223372036854775807) ∧ p.data.length ≤ maxLen
theorem puts_open {t e i b u : TypeId} {f0 f1 : Field} (ht : P.underlying t = some (.slice e)) (he : P.underlying e = some (.struct #[f0, f1])) (h0 : f0.type = i ∧ f0.offset = 0) (h1 : f1.type = b ∧ f1.offset = 1) (hi : P.underlying i = some (.int .i64)) (hb : P.underlying b = some (.slice u)) (hu : P.underlying u = some (.int .u8))
    (ce : P.cellsOf e = 2) (ci : P.cellsOf i = 1) (cb : P.cellsOf b = 1) (cu : P.cellsOf u = 1) (n : Nat) (cs : List Value) (x : DataW H × List MemPlace) (h : DataW.trod enc P w base spare held n t cs = some x) : ∃ l, PutsArg w cs l := by
  obtain ⟨s, l, g1, g2, g3, g4, g5⟩ := slice_open (α := Put) (sz := 2) (Q := fun cs p => ∃ d : SV, cs = [.int .i64 p.lba, .slice d.a d.n d.c] ∧ d.n ≤ d.c ∧ d.c ≤ maxLen ∧ bytesOn (hp w) d p.data ∧ (-9223372036854775808 ≤ p.lba ∧ p.lba ≤ 9223372036854775807)) ht ce (fun n cs x hx => by
    obtain ⟨xs, m, _, _, hl, hxl, hf⟩ := DataW.trod_struct he hx
    rw [ce] at hl
    match cs, hl with
    | [c0, c1], _ =>
      have a0 := hf 0 f0 rfl
      have a1 := hf 1 f1 rfl
      rw [h0.1, h0.2, ci] at a0
      rw [h1.1, h1.2, cb] at a1
      simp only [List.drop_zero, List.take_succ_cons, List.take_zero, List.drop_succ_cons] at a0 a1
      rw [List.getElem?_eq_getElem (by simpa using (show 0 < xs.length by rw [hxl]; simp))] at a0
      rw [List.getElem?_eq_getElem (by simpa using (show 1 < xs.length by rw [hxl]; simp))] at a1
      obtain ⟨k, e0, _, hw⟩ := DataW.trod_int hi a0
      obtain ⟨y, d, e1, y1, y2, y3⟩ := bytes_open hb hu cu _ _ _ a1
      have hbd := bounds_i64 hw
      cases e0; cases e1
      exact ⟨⟨k, y⟩, d, rfl, y1, y2, y3, hbd⟩) h
  refine ⟨l, s, g1, g2, g3, ⟨g4, fun i hi => ?_⟩, fun p hp => ?_⟩
  · obtain ⟨ad, cs', e, a1, a2, d, a3, _, _, a4, _⟩ := g5 i hi
    have b0 := a2 0 (by omega)
    have b1 := a2 1 (by omega)
    rw [a3] at b0 b1
    have e0 : (ad.add (i * 2)).add 0 = ad.add (i * 2) := by unfold Addr.add; simp
    rw [e0] at b0
    exact ⟨ad, d, e, b0, b1, a4⟩
  · obtain ⟨i, hi, rfl⟩ := List.getElem_of_mem hp
    obtain ⟨ad, cs', e, a1, a2, d, a3, a4, a5, a6, a7⟩ := g5 i hi
    exact ⟨a7, by have := a6.1; omega⟩
/-- An extent. -/
theorem ext_open {e i : TypeId} {f0 f1 : Field} (he : P.underlying e = some (.struct #[f0, f1])) (h0 : f0.type = i ∧ f0.offset = 0) (h1 : f1.type = i ∧ f1.offset = 1) (hi : P.underlying i = some (.int .i64)) (ce : P.cellsOf e = 2) (ci : P.cellsOf i = 1) (n : Nat) (cs : List Value) (x : DataW H × List MemPlace)
    (h : DataW.trod enc P w base spare held n e cs = some x) : ∃ y : Ext, cs = [.int .i64 y.first, .int .i64 y.len] ∧ (-9223372036854775808 ≤ y.first ∧ y.first ≤ 9223372036854775807) ∧ (-9223372036854775808 ≤ y.len ∧ y.len ≤ 9223372036854775807) := by
  obtain ⟨xs, m, _, _, hl, hxl, hf⟩ := DataW.trod_struct he h
  rw [ce] at hl
  match cs, hl with
  | [c0, c1], _ =>
    have a0 := hf 0 f0 rfl
    have a1 := hf 1 f1 rfl
    rw [h0.1, h0.2, ci] at a0
    rw [h1.1, h1.2, ci] at a1
    simp only [List.drop_zero, List.take_succ_cons, List.take_zero, List.drop_succ_cons] at a0 a1
    rw [List.getElem?_eq_getElem (by simpa using (show 0 < xs.length by rw [hxl]; simp))] at a0
    rw [List.getElem?_eq_getElem (by simpa using (show 1 < xs.length by rw [hxl]; simp))] at a1
    obtain ⟨k, e0, _, hw⟩ := DataW.trod_int hi a0
    obtain ⟨k', e1, _, hw'⟩ := DataW.trod_int hi a1
    have b0 := bounds_i64 hw
    have b1 := bounds_i64 hw'
    cases e0; cases e1
    exact ⟨⟨k, k'⟩, rfl, b0, b1⟩
theorem slice_cells {a : Option Addr} {n c : Nat} : (Value.slice a n c).cells.toList = [.slice a n c] := by simp [Value.cells]
theorem arg_of_cells {r : Reach} {b0 : Nat} {t e : TypeId} {v : Value} {s : SV} (ht : P.underlying t = some (.slice e)) (hval : Value.okWide P w r b0 t v) (h : v.cells.toList = [.slice s.a s.n s.c]) : v = .slice s.a s.n s.c := by
  obtain ⟨a, n, c, rfl⟩ := WideShapes.okWide_slice ht hval
  rw [slice_cells] at h
  simpa using h
end
end Go.Proofs.YtbolgpjcmchfoaaGreat
