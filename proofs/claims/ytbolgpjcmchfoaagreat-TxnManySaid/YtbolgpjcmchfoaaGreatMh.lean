/- Reads: what a block was at a time, and a transaction's view of it; pruning: plain functions. -/
import Derived.Test.YtbolgpjcmchfoaaGreatMg
namespace Go.Mo
open Go Go.Vc Go.Sl
def zeros : List UInt8 := List.replicate 40 0
/-- The versions not above a time, the newest one first. -/
def upTo (l : List Put) (t : Int) : List Put := l.reverse.dropWhile fun v => decide (t < v.lba)
def valAt (l : List Put) (t : Int) : List UInt8 :=
  match upTo l t with
  | [] => zeros
  | v :: _ => v.data
def timeAt (l : List Put) (t : Int) : Int :=
  match upTo l t with
  | [] => 0
  | v :: _ => v.lba
def XMap.get (M : XMap) (lba t : Int) : List UInt8 := valAt (versOf M.vers lba) t
def within (M : XMap) (e : Ext) : Bool := decide (0 ≤ e.first) && decide (1 ≤ e.len) && decide (e.len ≤ M.blocks) && decide (e.first ≤ M.blocks - e.len)
def blocksOf (e : Ext) : List Int := (List.range e.len.toNat).map fun i : Nat => e.first + (i : Int)
def XMap.range (M : XMap) (e : Ext) (t : Int) : List UInt8 := (blocksOf e).flatMap fun k => M.get k t
/-- One block as one that reads sees it. -/
def seenB (M : XMap) (B : Buf) (t : Int) (k : Int) : Rd :=
  match lkp B.data k with
  | some d => ⟨k, d, true⟩
  | none => ⟨k, M.get k t, false⟩
def View.read (M : XMap) (B : Buf) (V : View) (e : Ext) : View × (List UInt8 × Int) :=
  if e.len < 1 ∨ 16 < e.len then (V, ([], 3)) else if within M e = false then (V, ([], 2)) else if (V.set.add [e]).2 ≠ 0 then (V, ([], 7))
  else ({ V with set := (V.set.add [e]).1, reads := V.reads ++ (blocksOf e).map (seenB M B V.at_) }, ((blocksOf e).flatMap fun k => (seenB M B V.at_ k).data, 0))
def Mgr.readE (M : Mgr) (h : Int) (e : Ext) : Mgr × (List UInt8 × Int) :=
  match M.opn h with
  | none => (M, ([], 5))
  | some T => ({ M with all := put M.all h { T with view := (T.view.read M.m T.buf e).1 } }, (T.view.read M.m T.buf e).2)
def Mgr.load (M : Mgr) (l : List Put) : Mgr × Int :=
  if 0 < M.all.length ∨ M.base = 0 ∧ 0 < l.length then (M, 1) else if l.length = 0 then (M, 0) else ({ M with m := (M.m.apply ⟨M.base, l⟩).1 }, (M.m.apply ⟨M.base, l⟩).2)
def Book.low (B : Book) (now : Int) : Int := B.times.foldl (fun a p => min a p.2) now
/-- What is left of versions that are pruned. -/
def pruned (h : Int) (l : List Put) : List Put := l.drop ((upTo l h).length - 1)
def XMap.prune (M : XMap) (h : Int) : XMap × Int := ({ M with vers := on2 (pruned h) M.vers }, ((M.vers.map fun q => (upTo q.2 h).length - 1).sum : Nat))
def XMap.versions (M : XMap) : Int := ((M.vers.map fun q => q.2.length).sum : Nat)
def XMap.dump (M : XMap) : List Put := (sortI (M.vers.map Prod.fst)).map fun k => ⟨k, ((versOf M.vers k).getLastD ⟨0, []⟩).data⟩
def Mgr.prune (M : Mgr) : Mgr × Int := ({ M with m := (M.m.prune (M.book.low M.last)).1 }, (M.m.prune (M.book.low M.last)).2)
theorem upTo_length_le (l : List Put) (t : Int) : (upTo l t).length ≤ l.length := by
  unfold upTo
  exact Nat.le_trans (List.dropWhile_suffix _).length_le (by simp)
/-- One more version, above the time: it is not looked at; else it is the newest. -/
theorem upTo_snoc (l : List Put) (v : Put) (t : Int) : upTo (l ++ [v]) t = if t < v.lba then upTo l t else v :: l.reverse := by
  unfold upTo
  rw [List.reverse_append]
  simp only [List.reverse_cons, List.reverse_nil, List.nil_append, List.singleton_append, List.dropWhile_cons]
  by_cases h : t < v.lba <;> simp [h]
theorem upTo_mem {l : List Put} {t : Int} {v : Put} (h : v ∈ upTo l t) : v ∈ l := by
  unfold upTo at h
  exact List.mem_reverse.1 ((List.dropWhile_suffix _).subset h)
theorem valAt_length {l : List Put} (t : Int) (h : ∀ x ∈ l, x.data.length = 40) : (valAt l t).length = 40 := by
  unfold valAt
  split
  · simp [zeros]
  · rename_i v r e
    exact h v (upTo_mem (by rw [e]; simp))
end Go.Mo
