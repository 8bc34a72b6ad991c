/- Sets of extents: what the program's own code computes, as plain functions. -/
import Derived.Test.YtbolgpjcmchfoaaGreatMc
import Derived.Sort.Statements
import Derived.Shelf.SlSortCmp.WholeK
namespace Go.Mo
open Go Go.Vc Go.Sl
def encE (x : Ext) : List Value := [.int .i64 x.first, .int .i64 x.len]
def extsA (s : SV) (l : List Ext) : HP := ownS 2 s (l.flatMap encE)
def cmpE (x y : Ext) : Int := if x.first < y.first then -1 else if y.first < x.first then 1 else 0
theorem ltE (x y : Ext) : Proofs.ltOf cmpE x y = decide (x.first < y.first) := by
  unfold Proofs.ltOf cmpE
  by_cases h1 : x.first < y.first
  · simp [h1]
  · by_cases h2 : y.first < x.first <;> simp [h1, h2]
theorem swoE : Sort.SWO (Proofs.ltOf cmpE) where
  irrefl x := by rw [ltE]; simp
  trans x y z h1 h2 := by rw [ltE] at *; simp at *; omega
  ntrans x y z h1 h2 := by rw [ltE] at *; simp at *; omega
/-- The library's sort. -/
def sortE (l : List Ext) : List Ext := (Sort.pdq (Proofs.ltOf cmpE) l.toArray 0 l.length (Lib.bitLen l.length) true true).toList
theorem sortE_spec (l : List Ext) : (sortE l).Perm l ∧ (sortE l).Pairwise fun x y => x.first ≤ y.first := by
  obtain ⟨⟨h1, h2, h3⟩, h4⟩ := Sort.pdq_sorts (Proofs.ltOf cmpE) swoE l.toArray 0 l.length (Lib.bitLen l.length) true true (Nat.zero_le _) (by simp) (Or.inl rfl)
  unfold sortE
  generalize Sort.pdq (Proofs.ltOf cmpE) l.toArray 0 l.length (Lib.bitLen l.length) true true = d at h1 h2 h3 h4
  have hs : d.size = l.length := by simpa using h1
  refine ⟨?_, ?_⟩
  · have e1 : d.extract 0 l.length = d := by rw [← hs]; simp
    have e2 : l.toArray.extract 0 l.length = l.toArray := by simp
    rw [e1, e2] at h3
    simpa using h3
  · rw [List.pairwise_iff_getElem]
    intro i j hi hj hij
    have := h4 i j (Nat.zero_le _) hij (by simpa [hs] using hj)
    rw [ltE] at this
    simp only [Array.length_toList] at hi hj
    simp only [Array.getElem_toList]
    rw [getElem!_pos d i hi, getElem!_pos d j hj] at this
    simpa using this
theorem sortE_length (l : List Ext) : (sortE l).length = l.length := (sortE_spec l).1.length_eq
/-- One more extent, behind those so far (the last of them first). -/
def joinE : List Ext → Ext → List Ext
  | [], e => [e]
  | x :: r, e => if e.first ≤ x.first + x.len then ⟨x.first, max x.len (e.first + e.len - x.first)⟩ :: r else e :: x :: r
def joinM (l : List Ext) : List Ext := ((sortE l).foldl joinE []).reverse
structure XSet where
  most : Int
  l : List Ext
def setA (p : Option Addr) (S : XSet) : HP := ex fun s : SV => objA p [.int .i64 S.most, slv s] * extsA s S.l
theorem setA_open {p : Option Addr} {S : XSet} {R : HP} {w : World} (h : Sat (setA p S * R) w) : ∃ s, Sat (objA p [.int .i64 S.most, slv s] * (extsA s S.l * R)) w := by
  simp only [setA, ex_mul, mul_assoc', sat_ex] at h
  exact h
theorem setA_close {p : Option Addr} {S : XSet} {s : SV} {R : HP} {w : World} (h : Sat (objA p [.int .i64 S.most, slv s] * (extsA s S.l * R)) w) : Sat (setA p S * R) w := by
  simp only [setA, ex_mul, mul_assoc', sat_ex]
  exact ⟨s, h⟩
def XSet.add (S : XSet) (l : List Ext) : XSet × Int :=
  if l.all may = false then (S, 1) else if l.length = 0 then (S, 0) else if S.most < ((joinM (S.l ++ l)).length : Int) then (S, 7) else ({ S with l := joinM (S.l ++ l) }, 0)
theorem encE_length (l : List Ext) : (l.flatMap encE).length = l.length * 2 := flat2_length (fun x : Ext => .int .i64 x.first) (fun x => .int .i64 x.len) l
theorem encE_one (l : List Ext) : (l.flatMap encE).all one = true := flat2_one (fun x : Ext => .int .i64 x.first) (fun x => .int .i64 x.len) l (fun _ => rfl) (fun _ => rfl)
theorem encE_get (l : List Ext) (i : Nat) (hi : i < l.length) : (l.flatMap encE)[i * 2]? = some (.int .i64 l[i].first) ∧ (l.flatMap encE)[i * 2 + 1]? = some (.int .i64 l[i].len) := flat2_get (fun x : Ext => .int .i64 x.first) (fun x => .int .i64 x.len) l i hi
theorem extsA_n {s : SV} {l : List Ext} {R : HP} {w : World} (h : Sat (extsA s l * R) w) : s.n = l.length := by
  have := ownS_length h
  rw [encE_length] at this; omega
theorem extsA_on {s : SV} {l : List Ext} {w : World} (h : Sat (extsA s l) w) : extsOn (hp w) s l := by
  have h1 : Sat (extsA s l * 1) w := h.eq (mul_one' _).symm
  refine ⟨extsA_n h1, fun i hi => ?_⟩
  obtain ⟨g1, g2⟩ := encE_get l i hi
  have hl := encE_length l
  obtain ⟨b, hb, hc⟩ := ownS_cell h1 (i := i * 2) (by rw [hl]; omega)
  refine ⟨⟨b, 0, none⟩, hb, ?_, ?_⟩
  · rw [add_mk, Nat.zero_add]
    have := hc (i * 2) (by rw [hl]; omega)
    rw [← List.getElem?_eq_getElem, g1] at this
    exact this
  · rw [add_mk, add_mk, Nat.zero_add]
    have := hc (i * 2 + 1) (by rw [hl]; omega)
    rw [← List.getElem?_eq_getElem, g2] at this
    exact this
/-- a row of extents as plain cells. -/
theorem extsOn_row {h : Heap} {s : SV} {l : List Ext} (hl : extsOn h s l) : rowOn h s (l.flatMap encE) := by
  refine ⟨fun hn => ?_, fun ad had j hj => ?_⟩
  · cases l with
    | nil => rfl
    | cons x r =>
      obtain ⟨ad, ha, _⟩ := hl.2 0 (by simp)
      rw [hn] at ha; cases ha
  · rw [encE_length] at hj
    have hi : j / 2 < l.length := by omega
    obtain ⟨ad', ha, h1, h2⟩ := hl.2 (j / 2) hi
    rw [had] at ha; cases ha
    obtain ⟨g1, g2⟩ := encE_get l (j / 2) hi
    rcases Nat.mod_two_eq_zero_or_one j with e | e
    · have ej : j = j / 2 * 2 := by omega
      have : (l.flatMap encE)[j]? = some (.int .i64 l[j / 2].first) := by rw [← g1]; congr 1
      rw [List.getElem?_eq_some_iff] at this
      rw [this.2, ← h1]; congr 2
    · have ej : j = j / 2 * 2 + 1 := by omega
      have : (l.flatMap encE)[j]? = some (.int .i64 l[j / 2].len) := by rw [← g2]; congr 1
      rw [List.getElem?_eq_some_iff] at this
      have hadd : (ad.add (j / 2 * 2)).add 1 = ad.add j := by
        unfold Addr.add
        by_cases h0 : j / 2 * 2 = 0
        · have : j = 1 := by omega
          subst this; rfl
        · have : j ≠ 0 := by omega
          simp [h0, this]; omega
      rw [this.2, ← h2, hadd]
end Go.Mo
