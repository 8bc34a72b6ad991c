/- What the document's words are, as plain data; what it is that memory reads as them. -/
import Derived.Test.YtbolgpjcmchfoaaGreatWc
namespace Go.Mo
open Go Go.Vc Go.Sl
structure Put where
  lba : Int
  data : List UInt8
structure Ext where
  first : Int
  len : Int
deriving DecidableEq, Inhabited
structure Tx where
  time : Int
  puts : List Put
def may (e : Ext) : Bool := 0 ≤ e.first && e.first ≤ 1048576 && 1 ≤ e.len && e.len ≤ 1048576 && e.first + e.len ≤ 1048577
def meet (a b : Ext) : Bool := a.first < b.first + b.len && b.first < a.first + a.len
/-! ### Reading -/
def bytesV (l : List UInt8) : List Value := l.map fun b => .int .u8 b.toNat
def bytesOn (h : Heap) (s : SV) (l : List UInt8) : Prop := s.n = l.length ∧ rowOn h s (bytesV l)
def putsOn (h : Heap) (s : SV) (l : List Put) : Prop := s.n = l.length ∧ ∀ i (hi : i < l.length), ∃ ad d, s.a = some ad ∧ cellH h (ad.add (i * 2)) = some (.int .i64 l[i].lba) ∧ cellH h ((ad.add (i * 2)).add 1) = some (.slice d.a d.n d.c) ∧ bytesOn h d l[i].data
def extsOn (h : Heap) (s : SV) (l : List Ext) : Prop := s.n = l.length ∧ ∀ i (hi : i < l.length), ∃ ad, s.a = some ad ∧ cellH h (ad.add (i * 2)) = some (.int .i64 l[i].first) ∧ cellH h ((ad.add (i * 2)).add 1) = some (.int .i64 l[i].len)
def txsOn (h : Heap) (s : SV) (l : List Tx) : Prop := s.n = l.length ∧ ∀ i (hi : i < l.length), ∃ ad d, s.a = some ad ∧ cellH h (ad.add (i * 2)) = some (.int .i64 l[i].time) ∧ cellH h ((ad.add (i * 2)).add 1) = some (.slice d.a d.n d.c) ∧ putsOn h d l[i].puts
theorem bytesOn_le {h g : Heap} (hg : le h g) {s : SV} {l : List UInt8} (hl : bytesOn h s l) : bytesOn g s l := ⟨hl.1, rowOn_le hg hl.2⟩
theorem putsOn_le {h g : Heap} (hg : le h g) {s : SV} {l : List Put} (hl : putsOn h s l) : putsOn g s l :=
  ⟨hl.1, fun i hi => let ⟨ad, d, h1, h2, h3, h4⟩ := hl.2 i hi; ⟨ad, d, h1, cellH_le hg h2, cellH_le hg h3, bytesOn_le hg h4⟩⟩
theorem extsOn_le {h g : Heap} (hg : le h g) {s : SV} {l : List Ext} (hl : extsOn h s l) : extsOn g s l :=
  ⟨hl.1, fun i hi => let ⟨ad, h1, h2, h3⟩ := hl.2 i hi; ⟨ad, h1, cellH_le hg h2, cellH_le hg h3⟩⟩
theorem txsOn_le {h g : Heap} (hg : le h g) {s : SV} {l : List Tx} (hl : txsOn h s l) : txsOn g s l :=
  ⟨hl.1, fun i hi => let ⟨ad, d, h1, h2, h3, h4⟩ := hl.2 i hi; ⟨ad, d, h1, cellH_le hg h2, cellH_le hg h3, putsOn_le hg h4⟩⟩
theorem keep_le {w w' : World} (h : Keep w w') : le (hp w) (hp w') := fun b o hb => by
  have : b < w.heap.size := by rw [hp, Array.getElem?_eq_some_iff] at hb; exact hb.1
  rw [hp, h b this]; exact hb
theorem keep_cell {w w' : World} (h : Keep w w') {a : Addr} {v : Value} (e : w.cell? a = some v) : w'.cell? a = some v := cellH_le (keep_le h) e
theorem keep_heap {w w' : World} (h : Keep w w') {b : Nat} {o : Obj} (e : w.heap[b]? = some o) : w'.heap[b]? = some o := keep_le h b o e
theorem bytesOn_get {h : Heap} {s : SV} {l : List UInt8} (hl : bytesOn h s l) {i : Nat} (hi : i < l.length) : ∃ ad, s.a = some ad ∧ cellH h (ad.add i) = some (.int .u8 l[i].toNat) := by
  cases ha : s.a with
  | none => have := hl.2.1 ha; simp [bytesV] at this; subst this; simp at hi
  | some ad => exact ⟨ad, rfl, by have := hl.2.2 ad ha i (by simpa [bytesV] using hi); simpa [bytesV] using this⟩
/-- a loop, its invariant and its measure. -/
theorem loop_i {α : Type} {x₀ : α} {w : World} {body : α → World → (α → World → Prop) → Prop} (I : α → World → Prop) (μ : α → World → Nat) (h0 : I x₀ w)
    (hs : ∀ x w, I x w → body x w fun x' w' => I x' w' ∧ μ x' w' < μ x w) : loopR x₀ w body := ⟨I, μ, h0, hs⟩
theorem wrap_of {x : Int} (h : -2 ^ 62 ≤ x) (h' : x ≤ 2 ^ 62) : IntKind.i64.wrap x = x := wrap_i64 (by omega) (by omega)
theorem onP_i {a : Option Addr} {ad : Addr} {k : Addr → Prop} (h : a = some ad) (hk : k ad) : onP a k := by subst h; exact hk
end Go.Mo
