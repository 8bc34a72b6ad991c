/- The rules of the write buffer and of the book of times, as plain functions; what they are in memory. -/
import Derived.Test.YtbolgpjcmchfoaaGreatMb
namespace Go.Mo
open Go Go.Vc Go.Sl
structure Buf where
  blocks : Int
  most : Int
  data : List (Int × List UInt8)
def bufA (p : Option Addr) (B : Buf) : HP := ex fun r : Nat => objA p [.int .i64 B.blocks, .int .i64 B.most, .map (some r)] * slmapA byteRow r B.data
theorem bufA_open {p : Option Addr} {B : Buf} {R : HP} {w : World} (h : Sat (bufA p B * R) w) : ∃ r, Sat (objA p [.int .i64 B.blocks, .int .i64 B.most, .map (some r)] * (slmapA byteRow r B.data * R)) w := by
  simp only [bufA, ex_mul, mul_assoc', sat_ex] at h
  exact h
theorem bufA_close {p : Option Addr} {B : Buf} {r : Nat} {R : HP} {w : World} (h : Sat (objA p [.int .i64 B.blocks, .int .i64 B.most, .map (some r)] * (slmapA byteRow r B.data * R)) w) : Sat (bufA p B * R) w := by
  simp only [bufA, ex_mul, mul_assoc', sat_ex]
  exact ⟨r, h⟩
def sortI (l : List Int) : List Int := l.mergeSort fun x y => decide (x ≤ y)
theorem sortI_perm (l : List Int) : (sortI l).Perm l := List.mergeSort_perm _ _
theorem sortI_length (l : List Int) : (sortI l).length = l.length := (sortI_perm l).length_eq
def Buf.puts (B : Buf) : List Put := (sortI (B.data.map Prod.fst)).map fun k => ⟨k, (lkp B.data k).getD []⟩
def outOf (n : Int) (x : Put) : Bool := decide (x.lba < 0) || decide (n ≤ x.lba)
def badLen (x : Put) : Bool := !decide (x.data.length = 40)
/-- Do the blocks' numbers rise? -/
def riseM (l : List Put) : Bool := decide (0 < l.length ∧ (l.map Put.lba).Pairwise (· < ·))
def twiceM (l : List Put) : Bool := !decide ((l.map Put.lba).Nodup)
def newOnes (d : List (Int × List UInt8)) (l : List Put) : Nat := (l.filter fun p => (lkp d p.lba).isNone).length
def putsIn (d : List (Int × List UInt8)) (l : List Put) : List (Int × List UInt8) := l.foldl (fun d p => put d p.lba p.data) d
def Buf.write (B : Buf) (l : List Put) : Buf × Int :=
  if l.length = 0 then (B, 1) else if l.any (outOf B.blocks) then (B, 2) else if l.any badLen then (B, 3) else if twiceM l then (B, 4)
  else if B.most < ((B.data.length + newOnes B.data l : Nat) : Int) then (B, 7) else ({ B with data := putsIn B.data l }, 0)
structure Book where
  most : Int
  last : Int
  times : List (Int × Int)
def intv (n : Int) : Value := .int .i64 n
def bookA (p : Option Addr) (B : Book) : HP := ex fun r : Nat => objA p [.int .i64 B.most, .int .i64 B.last, .map (some r)] * mapA r (on2 intv B.times)
theorem bookA_open {p : Option Addr} {B : Book} {R : HP} {w : World} (h : Sat (bookA p B * R) w) : ∃ r, Sat (objA p [.int .i64 B.most, .int .i64 B.last, .map (some r)] * (mapA r (on2 intv B.times) * R)) w := by
  simp only [bookA, ex_mul, mul_assoc', sat_ex] at h
  exact h
theorem bookA_close {p : Option Addr} {B : Book} {r : Nat} {R : HP} {w : World} (h : Sat (objA p [.int .i64 B.most, .int .i64 B.last, .map (some r)] * (mapA r (on2 intv B.times) * R)) w) : Sat (bookA p B * R) w := by
  simp only [bookA, ex_mul, mul_assoc', sat_ex]
  exact ⟨r, h⟩
def Book.open (B : Book) (at_ : Int) : Book × (Int × Int) :=
  if at_ < 0 ∨ 1099511627776 < at_ then (B, (0, 1)) else if B.most ≤ (B.times.length : Int) then (B, (0, 6))
  else ({ B with last := B.last + 1, times := put B.times (B.last + 1) at_ }, (B.last + 1, 0))
def Book.close (B : Book) (h : Int) : Book × Int :=
  match lkp B.times h with
  | none => (B, 14)
  | some _ => ({ B with times := del B.times h }, 0)
end Go.Mo
