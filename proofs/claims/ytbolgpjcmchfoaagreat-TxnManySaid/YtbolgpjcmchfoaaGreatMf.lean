/- What conflicts: the rule as a plain function; the transactions' parts. -/
import Derived.Test.YtbolgpjcmchfoaaGreatMe
namespace Go.Mo
open Go Go.Vc Go.Sl
def XSet.has (S : XSet) (lba : Int) : Bool := may ⟨lba, 1⟩ && S.l.any fun x => meet x ⟨lba, 1⟩
def sumLen (l : List Ext) : Int := (l.map Ext.len).sum
def againstM (t : Tx) (S : XSet) : Bool := t.puts.any fun x => S.has x.lba
def hitX (M : XMap) (at_ : Int) (x : Ext) : Bool := M.written ⟨x.first, if 1048576 < x.len then 1048576 else x.len⟩ at_ || M.written ⟨x.first + x.len - 1, 1⟩ at_
def hitS (M : XMap) (q : List Tx) (at_ : Int) (S : XSet) : Bool := S.l.any (hitX M at_) || q.any fun t => againstM t S
def validM (M : XMap) (q : List Tx) (at_ : Int) (r s : XSet) : Int := if sumLen s.l = 0 then 0 else if hitS M q at_ r || hitS M q at_ s then 8 else 0
/-- How many make the next batch: puts so far, transactions so far. -/
def formL : List Tx → Int → Int → Int
  | [], _, n => n
  | t :: r, p, n => if 8 ≤ n ∨ (0 < n ∧ 32 - p < (t.puts.length : Nat)) then n else formL r (p + (t.puts.length : Nat)) (n + 1)
end Go.Mo
