/- The manager of transactions: its rules as plain functions; what it is in memory. -/
import Derived.Test.YtbolgpjcmchfoaaGreatMf
namespace Go.Mo
open Go Go.Vc Go.Sl
structure Rd where
  lba : Int
  data : List UInt8
  own : Bool
def readsA (s : SV) (l : List Rd) : HP := ex fun xs : List (SV × Rd) => lift (xs.map Prod.snd = l) * (ownS 3 s (xs.flatMap fun x => [.int .i64 x.2.lba, slv x.1, .bool x.2.own]) * all xs fun x => byteRow x.1 x.2.data)
structure View where
  at_ : Int
  set : XSet
  reads : List Rd
def viewA (p m b : Option Addr) (V : View) : HP := ex fun sp : Option Addr => ex fun rs : SV => objA p [.pointer m, .pointer b, .int .i64 V.at_, .pointer sp, slv rs] * (setA sp V.set * readsA rs V.reads)
theorem viewA_open {p m b : Option Addr} {V : View} {R : HP} {w : World} (h : Sat (viewA p m b V * R) w) : ∃ sp rs, Sat (objA p [.pointer m, .pointer b, .int .i64 V.at_, .pointer sp, slv rs] * (setA sp V.set * (readsA rs V.reads * R))) w := by
  simp only [viewA, ex_mul, mul_assoc', sat_ex] at h
  exact h
theorem viewA_close {p m b sp : Option Addr} {rs : SV} {V : View} {R : HP} {w : World} (h : Sat (objA p [.pointer m, .pointer b, .int .i64 V.at_, .pointer sp, slv rs] * (setA sp V.set * (readsA rs V.reads * R))) w) : Sat (viewA p m b V * R) w := by
  simp only [viewA, ex_mul, mul_assoc', sat_ex]
  exact ⟨sp, rs, h⟩
structure Trn where
  state : Int
  time : Int
  code : Int
  at_ : Int
  buf : Buf
  view : View
def trO (p bp vp mp : Option Addr) (T : Trn) : HP := objA p [.int .i64 T.state, .int .i64 T.time, .int .i64 T.code, .int .i64 T.at_, .pointer bp, .pointer vp] * (bufA bp T.buf * viewA vp mp bp T.view)
def trA (mp p : Option Addr) (T : Trn) : HP := ex fun bp : Option Addr => ex fun vp : Option Addr => trO p bp vp mp T
theorem trA_open {mp p : Option Addr} {T : Trn} {R : HP} {w : World} (h : Sat (trA mp p T * R) w) : ∃ bp vp, Sat (objA p [.int .i64 T.state, .int .i64 T.time, .int .i64 T.code, .int .i64 T.at_, .pointer bp, .pointer vp] * (bufA bp T.buf * (viewA vp mp bp T.view * R))) w := by
  simp only [trA, trO, ex_mul, mul_assoc', sat_ex] at h
  exact h
theorem trA_close {mp p bp vp : Option Addr} {T : Trn} {R : HP} {w : World} (h : Sat (objA p [.int .i64 T.state, .int .i64 T.time, .int .i64 T.code, .int .i64 T.at_, .pointer bp, .pointer vp] * (bufA bp T.buf * (viewA vp mp bp T.view * R))) w) : Sat (trA mp p T * R) w := by
  simp only [trA, trO, ex_mul, mul_assoc', sat_ex]
  exact ⟨bp, vp, h⟩
structure Mgr where
  m : XMap
  book : Book
  all : List (Int × Trn)
  queue : List Int
  out : Int
  num : Int
  base : Int
  last : Int
  given : Int
  read : Bool
abbrev Prs := List (Int × (Option Addr × Trn))
def mcells (mp bk : Option Addr) (r : Nat) (qs : SV) (M : Mgr) : List Value := [.pointer mp, .pointer bk, .map (some r), slv qs, .int .i64 M.out, .int .i64 M.num, .int .i64 M.base, .int .i64 M.last, .int .i64 M.given, .bool M.read]
/-- The manager laid open: where its parts lie. -/
def mgrO (p mp bk : Option Addr) (r : Nat) (qs : SV) (xs : Prs) (M : Mgr) : HP :=
  objA p (mcells mp bk r qs M) * (xmapA mp M.m * (bookA bk M.book * (mapA r (on2 (fun x => .pointer x.1) xs) * (Sl.all xs (fun x => trA mp x.2.1 x.2.2) * ownS 1 qs (M.queue.map intv)))))
def mgrA (p : Option Addr) (M : Mgr) : HP := ex fun mp : Option Addr => ex fun bk : Option Addr => ex fun r : Nat => ex fun qs : SV => ex fun xs : Prs => lift (on2 Prod.snd xs = M.all) * mgrO p mp bk r qs xs M
theorem mgrA_open {p : Option Addr} {M : Mgr} {R : HP} {w : World} (h : Sat (mgrA p M * R) w) : ∃ mp bk r qs xs, on2 Prod.snd xs = M.all ∧ Sat (mgrO p mp bk r qs xs M * R) w := by
  simp only [mgrA, ex_mul, mul_assoc', sat_ex, sat_lift] at h
  exact h
theorem mgrA_close {p mp bk : Option Addr} {r : Nat} {qs : SV} {xs : Prs} {M : Mgr} {R : HP} {w : World} (h : Sat (mgrO p mp bk r qs xs M * R) w) (hx : on2 Prod.snd xs = M.all) : Sat (mgrA p M * R) w := by
  simp only [mgrA, ex_mul, mul_assoc', sat_ex, sat_lift]
  exact ⟨mp, bk, r, qs, xs, hx, h⟩
/-! ### The rules -/
def Mgr.new (blocks last : Int) : Mgr := ⟨⟨blocks, [], 0⟩, ⟨16, 0, []⟩, [], [], 0, 0, last, last, last, false⟩
def Mgr.opn (M : Mgr) (h : Int) : Option Trn :=
  match lkp M.all h with
  | some T => if T.state = 1 then some T else none
  | none => none
def freshT (M : Mgr) : Trn := ⟨1, 0, 0, M.last, ⟨M.m.blocks, 16, []⟩, ⟨M.last, ⟨64, []⟩, []⟩⟩
def Mgr.begin (M : Mgr) : Mgr × (Int × Int) :=
  if (M.book.open M.last).2.2 = 0 then ({ M with book := (M.book.open M.last).1, all := put M.all (M.book.open M.last).2.1 (freshT M) }, ((M.book.open M.last).2.1, 0))
  else (M, (0, (M.book.open M.last).2.2))
def Mgr.write (M : Mgr) (h : Int) (l : List Put) : Mgr × Int :=
  match M.opn h with
  | none => (M, 5)
  | some T => ({ M with all := put M.all h { T with buf := (T.buf.write l).1 } }, (T.buf.write l).2)
/-- a transaction ends. -/
def Mgr.end_ (M : Mgr) (h state code : Int) : Mgr :=
  match lkp M.all h with
  | none => M
  | some T => { M with all := put M.all h { T with state := state, code := code, time := if state = 4 then 0 else T.time }, book := (M.book.close h).1 }
def Mgr.abort (M : Mgr) (h : Int) : Mgr × Int :=
  match M.opn h with
  | none => (M, 5)
  | some _ => (M.end_ h 4 0, 0)
def Mgr.waiting (M : Mgr) : List Tx := M.queue.filterMap fun h => (lkp M.all h).map fun T => ⟨T.time, T.buf.puts⟩
def viewSet (V : View) : XSet := (XSet.add ⟨64, []⟩ V.set.l).1
def bufSet (B : Buf) : XSet := B.puts.foldl (fun S x => (S.add [⟨x.lba, 1⟩]).1) ⟨(B.puts.length : Nat), []⟩
def Mgr.may (M : Mgr) (T : Trn) : Int :=
  if M.read then 10 else if validM M.m M.waiting T.at_ (viewSet T.view) (bufSet T.buf) ≠ 0 then validM M.m M.waiting T.at_ (viewSet T.view) (bufSet T.buf)
  else if 1099511627776 ≤ M.given then 11 else 0
def Mgr.commit (M : Mgr) (h : Int) : Mgr × Int :=
  match M.opn h with
  | none => (M, 5)
  | some T =>
    if T.buf.data.length = 0 then (({ M with all := put M.all h { T with time := T.at_ } } : Mgr).end_ h 3 0, 0)
    else if M.may T ≠ 0 then (M.end_ h 4 (M.may T), M.may T)
    else ({ M with given := M.given + 1, all := put M.all h { T with state := 2, time := M.given + 1 }, queue := M.queue ++ [h] }, 0)
def Mgr.result (M : Mgr) (h : Int) : Int × Int × Int :=
  match lkp M.all h with
  | none => (0, 0, 0)
  | some T => (T.state, T.time, T.code)
def Mgr.batch (M : Mgr) : Mgr × (Int × List Tx) × Int :=
  if 0 < M.out then (M, (0, []), 16) else if M.queue.length = 0 then (M, (0, []), 14)
  else ({ M with out := formL M.waiting 0 0 }, (M.num + 1, M.waiting.take (formL M.waiting 0 0).toNat), 0)
/-- one transaction of a batch that is done. -/
def doneOne (code : Int) (M : Mgr) (x : Int × Tx) : Mgr :=
  if code ≠ 0 then M.end_ x.1 4 code else ({ M with m := (M.m.apply x.2).1, last := x.2.time } : Mgr).end_ x.1 3 0
def Mgr.done (M : Mgr) (code : Int) : Mgr × Int :=
  if M.out = 0 then (M, 14)
  else
    let M1 := ((M.queue.take M.out.toNat).zip (M.waiting.take M.out.toNat)).foldl (doneOne code) M
    ({ M1 with num := if code = 0 then M.num + 1 else M.num, queue := M.queue.drop M.out.toNat, out := 0 }, 0)
end Go.Mo
