/- A verification condition of a function's code, computed by the kernel from the code itself, and sound for 'Calls': definitions. -/
import Derived.Calls
import Derived.Scope
import Derived.Orders
import Derived.Laws.World
namespace Go.Vc
open Go

/-! ### Shapes of cells, types, tables -/
/-- A slice's header. -/
structure SV where
  a : Option Addr
  n : Nat
  c : Nat
/-- What one cell may hold. -/
inductive Sh where
  | int (k : IntKind) | bool | ptr | slice | map | str | func | iface
def Sh.T : Sh → Type
  | .int _ => Int
  | .bool => Bool
  | .ptr => Option Addr
  | .slice => SV
  | .map => Option Nat
  | .str => ByteArray
  | .func => Option (Fn × Array Value × Array Value)
  | .iface => Option (Nat × Value)
def Sh.v : (s : Sh) → s.T → Value
  | .int k, x => .int k x
  | .bool, x => .bool x
  | .ptr, x => .pointer x
  | .slice, x => .slice (SV.a x) (SV.n x) (SV.c x)
  | .map, x => .map x
  | .str, x => .string x
  | .func, x => match x with
    | some (f, a, b) => .func f a b
    | none => .nilFunc
  | .iface, x => match x with
    | some (t, v) => .iface t v
    | none => .nilIface
def Sh.zero : Sh → Value
  | .int k => .int k 0
  | .bool => .bool false
  | .ptr => .pointer none
  | .slice => .slice none 0 0
  | .map => .map none
  | .str => .string ByteArray.empty
  | .func => .nilFunc
  | .iface => .nilIface
/-- Tuples over shapes. -/
def HT : List Sh → Type
  | [] => Unit
  | [a] => a.T
  | a :: b :: r => a.T × HT (b :: r)
def HT.vals : (l : List Sh) → HT l → List Value
  | [], _ => []
  | [a], x => [a.v x]
  | a :: b :: r, x => a.v x.1 :: HT.vals (b :: r) x.2
inductive Ty where
  | cell (s : Sh)
  | agg (l : List Sh)
def Ty.T : Ty → Type
  | .cell s => s.T
  | .agg l => HT l
def Ty.v : (t : Ty) → t.T → Value
  | .cell s, x => s.v x
  | .agg l, x => .agg (HT.vals l x).toArray
def Ty.vals : (t : Ty) → t.T → List Value
  | .cell s, x => [s.v x]
  | .agg l, x => HT.vals l x
/-- Tuples over types: results. -/
def RT : List Ty → Type
  | [] => Unit
  | [a] => a.T
  | a :: b :: r => a.T × RT (b :: r)
def RT.vals : (l : List Ty) → RT l → List Value
  | [], _ => []
  | [a], x => [a.v x]
  | a :: b :: r, x => a.v x.1 :: RT.vals (b :: r) x.2
def oneOf : List Value → Value
  | [v] => v
  | l => .tuple l.toArray
def RT.ret (l : List Ty) (x : RT l) : Value := oneOf (RT.vals l x)
/-! decoding -/
def Sh.dec : (s : Sh) → Value → Option s.T
  | .int k, .int k' n => match decEq k k' with | .isTrue _ => some n | .isFalse _ => none
  | .bool, .bool b => some b
  | .ptr, .pointer a => some a
  | .slice, .slice a n c => some (SV.mk a n c)
  | .map, .map r => some r
  | .str, .string s => some s
  | .func, .func f x y => some (some (f, x, y))
  | .func, .nilFunc => some none
  | .iface, .nilIface => some none
  | .iface, .iface t v => some (some (t, v))
  | _, _ => none
def HT.dec : (l : List Sh) → List Value → Option (HT l)
  | [], [] => some ()
  | [a], [v] => a.dec v
  | a :: b :: r, v :: u :: vs =>
    match a.dec v with
    | some x => match HT.dec (b :: r) (u :: vs) with
      | some y => some (x, y)
      | none => none
    | none => none
  | _, _ => none
def Ty.dec : (t : Ty) → Value → Option t.T
  | .cell s, v => s.dec v
  | .agg l, .agg cs => HT.dec l cs.toList
  | .agg _, _ => none
def RT.dec : (l : List Ty) → List Value → Option (RT l)
  | [], [] => some ()
  | [a], [v] => a.dec v
  | a :: b :: r, v :: u :: vs =>
    match a.dec v with
    | some x => match RT.dec (b :: r) (u :: vs) with
      | some y => some (x, y)
      | none => none
    | none => none
  | _, _ => none
def shOf : Value → Option Sh
  | .int k _ => some (.int k)
  | .bool _ => some .bool
  | .pointer _ => some .ptr
  | .slice _ _ _ => some .slice
  | .map _ => some .map
  | .string _ => some .str
  | .func _ _ _ => some .func
  | .nilFunc => some .func
  | .nilIface => some .iface
  | .iface _ _ => some .iface
  | _ => none
def shsOf : List Value → Option (List Sh)
  | [] => some []
  | v :: r => match shOf v with
    | some s => match shsOf r with
      | some l => some (s :: l)
      | none => none
    | none => none
/-! types of the program -/
inductive Kind where
  | int (k : IntKind) | bool | str | ptr | slice (e : Nat) | map (k e : Nat) | struct (fs : List (Nat × Nat)) | arr (n e : Nat) | func | iface
structure TInfo where
  kind : Kind
  sh : List Sh
  bytes : Nat
def TInfo.ty (i : TInfo) : Ty :=
  match i.kind with
  | .struct _ => .agg i.sh
  | .arr _ _ => .agg i.sh
  | _ => match i.sh with
    | [s] => .cell s
    | l => .agg l
def TInfo.zcells (i : TInfo) : List Value := i.sh.map Sh.zero
def TInfo.zero (i : TInfo) : Value :=
  match i.kind with
  | .struct _ => .agg i.zcells.toArray
  | .arr _ _ => .agg i.zcells.toArray
  | _ => match i.sh with
    | [s] => s.zero
    | l => .agg (l.map Sh.zero).toArray
structure Tab where
  ty : Nat → Option TInfo
  fn : Nat → Option (List Ty)

/-! ### Frames -/
abbrev Env := List (Nat × Value)
def get : Env → Nat → Option Value
  | [], _ => none
  | (k, v) :: r, t => match Nat.beq k t with
    | true => some v
    | false => get r t
/-- slots from here on are hints: which map an iterator goes over. -/
def hint (t : Nat) : Nat := 1000000 + t
def opd (E : Env) : Operand → Option Value
  | .tmp t => match Nat.blt t 1000000 with
    | true => get E t
    | false => none
  | .const v => some v
  | .func f => some (.func (.func f) #[] #[])
  | .global g => some (.pointer (some ⟨g, 0, none⟩))
def opds (E : Env) : List Operand → Option (List Value)
  | [] => some []
  | x :: r => match opd E x with
    | some v => match opds E r with
      | some l => some (v :: l)
      | none => none
    | none => none
def putE (d : Option Tmp) (v : Value) (E : Env) : Env :=
  match d with
  | some d => (d, v) :: E
  | none => E
/-- a value of one cell. -/
def one : Value → Bool
  | .agg _ => false
  | .tuple _ => false
  | _ => true
/-! small words of the conditions -/
def onV (o : Option Value) (k : Value → Prop) : Prop :=
  match o with
  | some v => k v
  | none => False
def onP (a : Option Addr) (k : Addr → Prop) : Prop :=
  match a with
  | some a => k a
  | none => False
def onM (r : Option Nat) (k0 : Prop) (k : Nat → Prop) : Prop :=
  match r with
  | none => k0
  | some r => k r
/-- a name for a world, for a number. -/
def withW (w : World) (k : World → Prop) : Prop := k w
def withI (x : Int) (k : Int → Prop) : Prop := k x
def onO {α : Type} (o : Option α) (k : α → Prop) : Prop :=
  match o with
  | some v => k v
  | none => False
def bsplit (b : Bool) (x y : Prop) : Prop :=
  match b with
  | true => x
  | false => y
/-- The cells from 'ad' + i on hold these. -/
def cellsAt (w : World) (ad : Addr) : Nat → List Value → Prop
  | _, [] => True
  | i, [v] => w.cell? (ad.add i) = some v
  | i, v :: u :: r => w.cell? (ad.add i) = some v ∧ cellsAt w ad (i + 1) (u :: r)
/-- The cells from 'ad' + i on may be written. -/
def storable (w : World) (ad : Addr) : Nat → List Value → Prop
  | _, [] => True
  | i, [_] => (∃ u, w.cell? (ad.add i) = some u) ∧ w.frozen? (ad.add i) = false
  | i, _ :: u :: r => ((∃ u, w.cell? (ad.add i) = some u) ∧ w.frozen? (ad.add i) = false) ∧ storable w ad (i + 1) (u :: r)
def storeAll (w : World) (ad : Addr) : Nat → List Value → World
  | _, [] => w
  | i, v :: r => storeAll (w.setCell (ad.add i) v) ad (i + 1) r
def storeO (a : Option Addr) (w : World) (off : Nat) (vs : List Value) : World :=
  match a with
  | some ad => storeAll w (ad.add off) 0 vs
  | none => w
/-- A loop: an invariant and a measure. -/
def loopR {α : Type} (x₀ : α) (w : World) (body : α → World → (α → World → Prop) → Prop) : Prop :=
  ∃ (I : α → World → Prop) (μ : α → World → Nat), I x₀ w ∧ ∀ x w, I x w → body x w fun x' w' => I x' w' ∧ μ x' w' < μ x w
/-- A map's entry whose key is an integer. -/
structure En where
  k : Int
  v : Value
  b : Nat
def En.e (kd : IntKind) (x : En) : MapEntry := ⟨.int kd x.k, x.v, x.b⟩
def entries (kd : IntKind) (l : List En) : Array MapEntry := (l.map (En.e kd)).toArray
def findE : List En → Int → Option Value
  | [], _ => none
  | e :: r, k => if k = e.k then some e.v else findE r k
def setE : List En → Int → Value → List En
  | [], _, _ => []
  | e :: r, k, v => if k = e.k then ⟨k, v, e.b⟩ :: r else e :: setE r k v
def hasE : List En → Int → Bool
  | [], _ => false
  | e :: r, k => if k = e.k then true else hasE r k
def delE : List En → Int → List En
  | [], _ => []
  | e :: r, k => if k = e.k then r else e :: delE r k
def putM (l : List En) (clock : Nat) (k : Int) (v : Value) : List En := if hasE l k = true then setE l k v else l ++ [⟨k, v, clock⟩]
def putClock (l : List En) (clock : Nat) (k : Int) : Nat := if hasE l k = true then clock else clock + 1
def World.setObj (w : World) (r : Nat) (o : Obj) : World := { w with heap := w.heap.setIfInBounds r o }
def mapAt (w : World) (r : Nat) (kd : IntKind) (es : List En) (clock : Nat) : Prop := w.heap[r]? = some (.map (entries kd es) clock)

/-! ### Values that an operation computes from the frame alone -/
def bin (op : BinOp) (x y : Value) : Option Value :=
  match op, x, y with
  | .add, .int k a, .int _ b => some (.int k (k.wrap (a + b)))
  | .sub, .int k a, .int _ b => some (.int k (k.wrap (a - b)))
  | .mul, .int k a, .int _ b => some (.int k (k.wrap (a * b)))
  | .eql, .int _ a, .int _ b => some (.bool (decide (a = b)))
  | .neq, .int _ a, .int _ b => some (.bool (!decide (a = b)))
  | .lss, .int _ a, .int _ b => some (.bool (decide (a < b)))
  | .leq, .int _ a, .int _ b => some (.bool (decide (a ≤ b)))
  | .gtr, .int _ a, .int _ b => some (.bool (decide (b < a)))
  | .geq, .int _ a, .int _ b => some (.bool (decide (b ≤ a)))
  | .eql, .string a, .string b => some (.bool (a.toList == b.toList))
  | .neq, .string a, .string b => some (.bool (!(a.toList == b.toList)))
  | _, _, _ => none
def sameKind : Value → Value → Bool
  | .int k _, .int k' _ => match decEq k k' with | .isTrue _ => true | .isFalse _ => false
  | .string _, .string _ => true
  | _, _ => false
/-- '==' of a pointer, a slice, a map, a function with nil; of bools. -/
def eqv (kd : Kind) (x y : Value) : Option Bool :=
  match kd, x, y with
  | .bool, .bool a, .bool b => some (a == b)
  | .ptr, .pointer a, .pointer none => some a.isNone
  | .ptr, .pointer none, .pointer b => some b.isNone
  | .slice _, .slice a _ _, .slice none _ _ => some a.isNone
  | .slice _, .slice none _ _, .slice b _ _ => some b.isNone
  | .map _ _, .map a, .map none => some a.isNone
  | .map _ _, .map none, .map b => some b.isNone
  | _, _, _ => none
def sub? (a : Option Addr) (l m e : Nat) : Option Addr := if m = l then a else a.map (·.add (l * e))
/-- the bound of a slice expression. -/
def bound (d : Int) : Option Value → Option Int
  | none => some d
  | some (.int _ i) => some i
  | some _ => none
def opdO (E : Env) : Option Operand → Option (Option Value)
  | none => some none
  | some x => match opd E x with
    | some v => some (some v)
    | none => none
/-- which operations only look. -/
def looks : Op → Bool
  | .move _ | .assign _ | .pick .. | .load .. | .nilCheck _ | .binOp .. | .unOp .. | .convert .. | .makeFunc .. | .slice .. | .fieldAddr .. | .indexAddr .. | .index .. | .lookup .. | .extract .. | .build .. => true
  | .call { callee := .builtin .len, .. } => true
  | .call { callee := .builtin .cap, .. } => true
  | .call { callee := .builtin .min, .. } => true
  | .call { callee := .builtin .max, .. } => true
  | _ => false
def min2 : Value → Value → Option Value
  | .int k x, .int _ y => some (.int k (if y < x then y else x))
  | _, _ => none
def max2 : Value → Value → Option Value
  | .int k x, .int _ y => some (.int k (if y > x then y else x))
  | _, _ => none
def parts (E : Env) : List (Nat × Operand) → Option (List (Nat × Value))
  | [] => some []
  | (i, x) :: r => match opd E x with
    | some v => match parts E r with
      | some l => some ((i, v) :: l)
      | none => none
    | none => none
/-- A literal's cells: parts at (offset, size). -/
def fillL (place : Nat → Option (Nat × Nat)) (cells : Array Value) (ps : List (Nat × Value)) : Option (Array Value) := Instr.fill place cells ps
def zrow (z : List Value) : Nat → List Value
  | 0 => []
  | n + 1 => z ++ zrow z n
def bytesOf (l : List UInt8) : List Value := l.map fun b => .int .u8 b.toNat

section
variable (M : (World → Prop) → Prop) (T : Tab)
/-- An operation that only looks. 'M': what holds of the world (or worlds) in which it may be carried out. -/
def vcS (o : Oper) (E : Env) (K : Env → Prop) : Prop :=
  match o.op with
  | .move x => onV (opd E x) fun v => K (putE o.dst v E)
  | .assign x => onV (opd E x) fun v => K (putE o.dst v E)
  | .pick c a b => match opd E c with
    | some (.bool c) => bsplit c (onV (opd E a) fun v => K (putE o.dst v E)) (onV (opd E b) fun v => K (putE o.dst v E))
    | _ => False
  | .nilCheck x => match opd E x with
    | some (.pointer p) => onP p fun ad => K (putE o.dst (.pointer (some ad)) E)
    | some (.func (.func f) fs cs) => K (putE o.dst (.func (.func f) fs cs) E)
    | _ => False
  | .load t x => match opd E x with
    | some (.pointer p) => onP p fun ad => match T.ty t with
      | some i => ∃ x : i.ty.T, M (fun w => cellsAt w ad 0 (i.ty.vals x)) ∧ K (putE o.dst (i.ty.v x) E)
      | none => False
    | _ => False
  | .fieldAddr s x f => match opd E x with
    | some (.pointer p) => onP p fun ad => match T.ty s with
      | some ⟨.struct fs, _, _⟩ => match fs[f]? with
        | some (off, _ + 1) => K (putE o.dst (.pointer (some (ad.add off))) E)
        | _ => False
      | _ => False
    | _ => False
  | .indexAddr t x ix => match opd E x, opd E ix with
    | some (.slice a n _), some (.int _ i) => match T.ty t with
      | some ⟨.slice e, _, _⟩ => match T.ty e with
        | some ie => 0 ≤ i ∧ i < n ∧ onP a fun ad => K (putE o.dst (.pointer (some (ad.add (i.toNat * ie.sh.length)))) E)
        | none => False
      | _ => False
    | _, _ => False
  | .index t x ix => match opd E x, opd E ix with
    | some (.agg cs), some (.int _ i) => match T.ty t with
      | some ⟨.arr n e, _, _⟩ => match T.ty e with
        | some ie => match ie.ty with
          | .cell s => 0 ≤ i ∧ i < n ∧ ∃ x : s.T, cs[i.toNat * ie.sh.length]? = some (s.v x) ∧ K (putE o.dst (s.v x) E)
          | .agg _ => False
        | none => False
      | _ => False
    | _, _ => False
  | .binOp .rem _ x y _ => match opd E x, opd E y with
    | some (.int k a), some (.int k' b) => sameKind (.int k 0) (.int k' 0) = true ∧ b ≠ 0 ∧ K (putE o.dst (.int k (a.tmod b)) E)
    | _, _ => False
  | .binOp .quo _ x y _ => match opd E x, opd E y with
    | some (.int k a), some (.int k' b) => sameKind (.int k 0) (.int k' 0) = true ∧ b ≠ 0 ∧ K (putE o.dst (.int k (k.wrap (a.tdiv b))) E)
    | _, _ => False
  | .binOp op t x y _ => match opd E x, opd E y with
    | some a, some b => match sameKind a b with
      | true => onV (bin op a b) fun v => K (putE o.dst v E)
      | false => match T.ty t, op with
        | some i, .eql => match eqv i.kind a b with
          | some r => K (putE o.dst (.bool r) E)
          | none => False
        | some i, .neq => match eqv i.kind a b with
          | some r => K (putE o.dst (.bool (!r)) E)
          | none => False
        | _, _ => False
    | _, _ => False
  | .unOp .not _ x => match opd E x with
    | some (.bool b) => K (putE o.dst (.bool (!b)) E)
    | _ => False
  | .unOp .neg _ x => match opd E x with
    | some (.int k b) => K (putE o.dst (.int k (k.wrap (0 - b))) E)
    | _ => False
  | .convert s d x => match opd E x, T.ty s, T.ty d with
    | some (.int _ n), some ⟨.int _, _, _⟩, some ⟨.int k, _, _⟩ => K (putE o.dst (.int k (k.wrap n)) E)
    | some (.slice a n _), some ⟨.slice e, _, _⟩, some ⟨.str, _, _⟩ => match T.ty e with
      | some ⟨.int .u8, _, _⟩ => ∃ l : List UInt8, l.length = n ∧ (∀ ad, a = some ad → M (fun w => cellsAt w ad 0 (bytesOf l))) ∧ (a = none → l = []) ∧ K (putE o.dst (.string ⟨l.toArray⟩) E)
      | _ => False
    | _, _, _ => False
  | .makeFunc fn fs cs => match opds E fs.toList, opds E cs.toList with
    | some a, some b => K (putE o.dst (.func fn a.toArray b.toArray) E)
    | _, _ => False
  | .extract x i => match opd E x with
    | some (.tuple vs) => onV vs[i]? fun v => K (putE o.dst v E)
    | _ => False
  | .build t ps => match T.ty t with
    | some ⟨.struct fs, sh, _⟩ => match parts E ps.toList with
      | some l => match fillL (fun i => fs[i]?) (sh.map Sh.zero).toArray l with
        | some cs => K (putE o.dst (.agg cs) E)
        | none => False
      | none => False
    | some ⟨.arr _ e, sh, _⟩ => match T.ty e with
      | some ie => match parts E ps.toList with
        | some l => match fillL (fun i => some (i * ie.sh.length, ie.sh.length)) (sh.map Sh.zero).toArray l with
          | some cs => K (putE o.dst (.agg cs) E)
          | none => False
        | none => False
      | none => False
    | _ => False
  | .slice t x lo hi none => match opd E x, opdO E lo, opdO E hi with
    | some (.slice a n c), some l, some h => match T.ty t with
      | some ⟨.slice e, _, _⟩ => match T.ty e with
        | some ie => match bound 0 l, bound n h with
          | some l, some h => 0 ≤ l ∧ l ≤ h ∧ h ≤ c ∧ K (putE o.dst (.slice (sub? a l.toNat c ie.sh.length) (h.toNat - l.toNat) (c - l.toNat)) E)
          | _, _ => False
        | none => False
      | _ => False
    | _, _, _ => False
  | .lookup t m k ok => match opd E m, opd E k, T.ty t with
    | some (.map r), some (.int kd k), some ⟨.map kt e, _, _⟩ => match T.ty kt, T.ty e with
      | some ⟨.int kd', _, _⟩, some ie => sameKind (.int kd 0) (.int kd' 0) = true ∧ onM r (K (putE o.dst (match ok with | true => .tuple #[ie.zero, .bool false] | false => ie.zero) E))
        fun r => ∃ es : List En, M (fun w => ∃ clock, mapAt w r kd es clock) ∧ ∃ x : ie.ty.T, (findE es k).getD ie.zero = ie.ty.v x ∧
          K (putE o.dst (match ok with | true => .tuple #[ie.ty.v x, .bool (findE es k).isSome] | false => ie.ty.v x) E)
      | _, _ => False
    | _, _, _ => False
  | .call { callee := .builtin .len, args, argTypes } => match opds E args.toList with
    | some [.slice _ n _] => match argTypes.toList with
      | t :: _ => match T.ty t with
        | some ⟨.slice _, _, _⟩ => K (putE o.dst (.int .i64 n) E)
        | _ => False
      | _ => False
    | some [.string s] => match argTypes.toList with
      | t :: _ => match T.ty t with
        | some ⟨.str, _, _⟩ => K (putE o.dst (.int .i64 s.size) E)
        | _ => False
      | _ => False
    | some [.map r] => match argTypes.toList with
      | t :: _ => match T.ty t with
        | some ⟨.map kt _, _, _⟩ => match T.ty kt with
          | some ⟨.int kd, _, _⟩ => onM r (K (putE o.dst (.int .i64 0) E)) fun r => ∃ es : List En, M (fun w => ∃ clock, mapAt w r kd es clock) ∧ K (putE o.dst (.int .i64 es.length) E)
          | _ => False
        | _ => False
      | _ => False
    | _ => False
  | .call { callee := .builtin .cap, args, argTypes } => match opds E args.toList with
    | some [.slice _ _ c] => match argTypes.toList with
      | t :: _ => match T.ty t with
        | some ⟨.slice _, _, _⟩ => K (putE o.dst (.int .i64 c) E)
        | _ => False
      | _ => False
    | _ => False
  | .call { callee := .builtin .min, args, .. } => match opds E args.toList with
    | some [a, b] => onV (min2 a b) fun v => K (putE o.dst v E)
    | _ => False
  | .call { callee := .builtin .max, args, .. } => match opds E args.toList with
    | some [a, b] => onV (max2 a b) fun v => K (putE o.dst v E)
    | _ => False
  | _ => False
end

/-- What no operation here turns. -/
structure Wsame (w w' : World) : Prop where
  os : w'.os = w.os
  tape : w'.tape = w.tape
  output : w'.output = w.output
theorem Wsame.refl (w : World) : Wsame w w := ⟨rfl, rfl, rfl⟩
theorem Wsame.trans {a b c : World} (h : Wsame a b) (k : Wsame b c) : Wsame a c := ⟨k.os.trans h.os, k.tape.trans h.tape, k.output.trans h.output⟩
theorem Wsame.storeAll (ad : Addr) : ∀ (vs : List Value) (i : Nat) (w : World), Wsame w (storeAll w ad i vs)
  | [], _, w => Wsame.refl w
  | v :: r, i, w => (show Wsame w (w.setCell (ad.add i) v) from ⟨rfl, rfl, rfl⟩).trans (Wsame.storeAll ad r (i + 1) (w.setCell (ad.add i) v))
theorem Wsame.storeO (a : Option Addr) (w : World) (n : Nat) (vs : List Value) : Wsame w (storeO a w n vs) := by
  cases a with
  | none => exact Wsame.refl w
  | some ad => exact Wsame.storeAll _ _ _ _
/-- A call, with its results in their shapes. -/
def callsR (P : Program) (f : FuncId) (args : Array Value) (rs : List Ty) (w : World) (k : RT rs → World → Prop) : Prop :=
  Calls P f args w fun e w' => Wsame w w' ∧ ∃ x : RT rs, e = .returned (RT.ret rs x) ∧ k x w'

/-- what an append leaves: in place. -/
def newCapOk (n m c bytes : Nat) : Prop := Builtin.nextslicecap (n + m) c * bytes ≤ 2 ^ 48

def appendR (a b : SV) (sz bytes : Nat) (z : List Value) (e : Nat) (w : World) (K : SV → World → Prop) : Prop :=
  ∃ news : List Value, news.length = b.n * sz ∧ news.all one = true ∧
    (∀ ad, b.a = some ad → cellsAt w ad 0 news) ∧ (b.a = none → b.n = 0) ∧
    (a.n + b.n ≤ a.c → (∀ ad, a.a = some ad → storable w (ad.add (a.n * sz)) 0 news) ∧ K ⟨a.a, a.n + b.n, a.c⟩ (storeO a.a w (a.n * sz) news)) ∧
    (a.c < a.n + b.n → newCapOk a.n b.n a.c bytes ∧ bytes ≠ 0 ∧ ∃ olds : List Value, olds.length = a.n * sz ∧ (∀ ad, a.a = some ad → cellsAt w ad 0 olds) ∧ (a.a = none → a.n = 0) ∧
      ∀ cap, a.n + b.n ≤ cap → K ⟨some ⟨w.heap.size, 0, none⟩, a.n + b.n, cap⟩ (w.alloc (.cells (olds ++ news ++ zrow z (cap - (a.n + b.n))).toArray e)).drew)
def copyR (a b : SV) (sz : Nat) (w : World) (K : Int → World → Prop) : Prop :=
  ∃ news : List Value, news.length = min b.n a.n * sz ∧ news.all one = true ∧ (∀ ad, b.a = some ad → cellsAt w ad 0 news) ∧ (b.a = none → b.n = 0) ∧
    (∀ ad, a.a = some ad → storable w ad 0 news) ∧ K (min b.n a.n : Nat) (storeO a.a w 0 news)

/-- zeros behind a row that has no room for them. -/
def appendZ (a : SV) (m : Int) (sz bytes : Nat) (z : List Value) (e : Nat) (w : World) (K : SV → World → Prop) : Prop :=
  0 ≤ m ∧ m ≤ 2 ^ 48 ∧ m * bytes ≤ 2 ^ 48 ∧ a.n ≤ 2 ^ 48 ∧ a.c < a.n + m.toNat ∧ newCapOk a.n m.toNat a.c bytes ∧ bytes ≠ 0 ∧ ∃ olds : List Value, olds.length = a.n * sz ∧ (∀ ad, a.a = some ad → cellsAt w ad 0 olds) ∧ (a.a = none → a.n = 0) ∧
      ∀ cap, a.n + m.toNat ≤ cap → K ⟨some ⟨w.heap.size, 0, none⟩, a.n + m.toNat, cap⟩ (w.alloc (.cells (olds ++ zrow z m.toNat ++ zrow z (cap - (a.n + m.toNat))).toArray e)).drew

/-- An operation that makes memory, writes it, or calls. -/
def vcE (P : Program) (T : Tab) (o : Oper) (E : Env) (w : World) (K : Env → World → Prop) : Prop :=
  match o.op with
  | .store t x v => match opd E x, opd E v with
    | some (.pointer p), some v => onP p fun ad => match T.ty t with
      | some i => match Nat.beq v.cells.size i.sh.length with
        | true => storable w ad 0 v.cells.toList ∧ v.cells.toList.all one = true ∧ K (putE o.dst undef E) (storeAll w ad 0 v.cells.toList)
        | false => False
      | none => False
    | _, _ => False
  | .alloc t => match T.ty t with
    | some i => K (putE o.dst (.pointer (some ⟨w.heap.size, 0, none⟩)) E) (w.alloc (.cells i.zero.cells t))
    | none => False
  | .box t x => match opd E x with
    | some v => K (putE o.dst (.pointer (some ⟨w.heap.size, 0, none⟩)) E) (w.alloc (.cells v.cells t))
    | none => False
  | .buildSlice t len ps => match T.ty t with
    | some ⟨.slice e, _, _⟩ => match T.ty e with
      | some ie => match parts E ps.toList, Nat.ble (len * ie.sh.length) 1000 with
        | some l, true => match fillL (fun i => some (i * ie.sh.length, ie.sh.length)) (zrow ie.zcells len).toArray l with
          | some cs => K (putE o.dst (.slice (some ⟨w.heap.size, 0, none⟩) len len) E) (w.alloc (.cells cs e))
          | none => False
        | _, _ => False
      | none => False
    | _ => False
  | .makeMap _ none => K (putE o.dst (.map (some w.heap.size)) E) (w.alloc (.map #[] 0))
  | .makeSlice t l c => match opd E l, opd E c, T.ty t with
    | some (.int .i64 l), some (.int .i64 c), some ⟨.slice e, _, _⟩ => match T.ty e with
      | some ie => 0 ≤ l ∧ l ≤ c ∧ ie.bytes * c ≤ 2 ^ 48 ∧ c ≤ 2 ^ 48 ∧
        K (putE o.dst (.slice (some ⟨w.heap.size, 0, none⟩) l.toNat c.toNat) E) (w.alloc (.cells (zrow ie.zcells c.toNat).toArray e))
      | none => False
    | _, _, _ => False
  | .mapUpdate t m k v => match opd E m, opd E k, opd E v, T.ty t with
    | some (.map r), some (.int kd k), some v, some ⟨.map kt _, _, _⟩ => match T.ty kt with
      | some ⟨.int kd', _, _⟩ => sameKind (.int kd 0) (.int kd' 0) = true ∧ onM r False fun r => ∃ (es : List En) (clock : Nat), mapAt w r kd es clock ∧ K (putE o.dst undef E) (World.setObj w r (.map (entries kd (putM es clock k v)) (putClock es clock k)))
      | _ => False
    | _, _, _, _ => False
  | .range t x => match opd E x, T.ty t, o.dst with
    | some (.map r), some ⟨.map _ _, _, _⟩, some d => onM r (K ((hint d, .int .i64 t) :: putE (some d) (.pointer (some ⟨w.heap.size, 0, none⟩)) E) (w.alloc (.mapIter none 0 #[] 0)))
      fun r => ∃ es clock, w.heap[r]? = some (.map es clock) ∧ K ((hint d, .int .i64 t) :: putE (some d) (.pointer (some ⟨w.heap.size, 0, none⟩)) E) (w.alloc (.mapIter (some r) clock #[] clock))
    | _, _, _ => False
  | .next (.tmp it) false => match opd E (.tmp it), get E (hint it) with
    | some (.pointer p), some (.int .i64 t) => match T.ty t.toNat with
      | some ⟨.map kt _, _, _⟩ => match T.ty kt with
        | some ⟨.int kd, _, _⟩ => onP p fun ad => ad.off = 0 ∧ ∃ (m : Option Nat) (since : Nat) (seen : Array Nat) (st : Nat), w.heap[ad.block]? = some (.mapIter m since seen st) ∧ onM m (K (putE o.dst (.tuple #[.bool false]) E) w)
          fun m => ∃ (es : List En) (clock : Nat), mapAt w m kd es clock ∧ (seen = #[] ∨ es = [] ∨ ∃ e ∈ es, e.b < st) ∧
              (∀ e ∈ es, e.b ∉ seen → ∀ w1, (w1 = w ∨ w1 = w.drew) → K (putE o.dst (.tuple #[.bool true, .int kd e.k, e.v]) E) (World.setObj w1 ad.block (.mapIter (some m) since (seen.push e.b) clock))) ∧
              ((∀ e ∈ es, e.b < since → e.b ∈ seen) → ∀ w1, (w1 = w ∨ w1 = w.drew) → K (putE o.dst (.tuple #[.bool false]) E) w1)
        | _ => False
      | _ => False
    | _, _ => False
  | .entry (.tmp it) => match opd E (.tmp it), get E (hint it) with
    | some (.pointer p), some (.int .i64 t) => match T.ty t.toNat with
      | some ⟨.map kt et, _, _⟩ => match T.ty kt, T.ty et with
        | some ⟨.int kd, _, _⟩, some ie => onP p fun ad => ad.off = 0 ∧ ∃ (m since : Nat) (seen : Array Nat) (st : Nat), w.heap[ad.block]? = some (.mapIter (some m) since seen st) ∧
          ∃ (es : List En), mapAt w m kd es st ∧ ∃ e, seen.back? = some e.b ∧ e ∈ es ∧ (∀ f ∈ es, f.b = e.b → f = e) ∧ ∃ x : ie.ty.T, e.v = ie.ty.v x ∧ K (putE o.dst (.tuple #[.int kd e.k, ie.ty.v x]) E) w
        | _, _ => False
      | _ => False
    | _, _ => False
  | .call { callee := .builtin .delete, args, argTypes } => match opds E args.toList, argTypes.toList with
    | some [.map r, .int kd k], t :: _ => match T.ty t with
      | some ⟨.map kt _, _, _⟩ => match T.ty kt with
        | some ⟨.int kd', _, _⟩ => sameKind (.int kd 0) (.int kd' 0) = true ∧ onM r (K (putE o.dst (.tuple #[]) E) w) fun r => ∃ (es : List En) (clock : Nat), mapAt w r kd es clock ∧ K (putE o.dst (.tuple #[]) E) (World.setObj w r (.map (entries kd (delE es k)) clock))
        | _ => False
      | _ => False
    | _, _ => False
  | .call { callee := .builtin .append, args, argTypes } => match opds E args.toList, argTypes.toList with
    | some [.slice a n c, .slice b m _], [t, t'] => match T.ty t, T.ty t' with
      | some ⟨.slice e, _, _⟩, some ⟨.slice _, _, _⟩ => match T.ty e with
        | some ie => ∃ news : List Value, news.length = m * ie.sh.length ∧ news.all one = true ∧
            (∀ ad, b = some ad → cellsAt w ad 0 news) ∧ (b = none → m = 0) ∧
            (n + m ≤ c → (∀ ad, a = some ad → storable w (ad.add (n * ie.sh.length)) 0 news) ∧
              K (putE o.dst (.slice a (n + m) c) E) (storeO a w (n * ie.sh.length) news)) ∧
            (c < n + m → newCapOk n m c ie.bytes ∧ ie.bytes ≠ 0 ∧ ∃ olds : List Value, olds.length = n * ie.sh.length ∧ (∀ ad, a = some ad → cellsAt w ad 0 olds) ∧ (a = none → n = 0) ∧
              ∀ cap, n + m ≤ cap → K (putE o.dst (.slice (some ⟨w.heap.size, 0, none⟩) (n + m) cap) E) (w.alloc (.cells (olds ++ news ++ zrow ie.zcells (cap - (n + m))).toArray e)).drew)
        | none => False
      | _, _ => False
    | some [.slice a n c, .int .i64 m], [t, t'] => match T.ty t, T.ty t' with
      | some ⟨.slice e, _, _⟩, some ⟨.int _, _, _⟩ => match T.ty e with
        | some ie => appendZ ⟨a, n, c⟩ m ie.sh.length ie.bytes ie.zcells e w fun s w => K (putE o.dst (.slice s.a s.n s.c) E) w
        | none => False
      | _, _ => False
    | _, _ => False
  | .call { callee := .builtin .copy, args, argTypes } => match opds E args.toList, argTypes.toList with
    | some [.slice a n _, .slice b m _], t :: _ => match T.ty t with
      | some ⟨.slice e, _, _⟩ => match T.ty e with
        | some ie => ∃ news : List Value, news.length = min m n * ie.sh.length ∧ news.all one = true ∧ (∀ ad, b = some ad → cellsAt w ad 0 news) ∧ (b = none → m = 0) ∧
            (∀ ad, a = some ad → storable w ad 0 news) ∧ K (putE o.dst (.int .i64 (min m n : Nat)) E) (storeO a w 0 news)
        | none => False
      | _ => False
    | _, _ => False
  | .call { callee := .value f, args, .. } => match opd E f, opds E args.toList with
    | some (.func (.func f) fs cs), some args => match T.fn f with
      | some rs => callsR P f ((fs.toList ++ args ++ cs.toList).toArray) rs w fun x w' => K (putE o.dst (RT.ret rs x) E) w'
      | none => False
    | _, _ => False
  | _ => False

/-! ### Regions, code, functions -/
section
variable (P : Program) (T : Tab)
def vcStep (o : Oper) (E : Env) (w : World) (K : Env → World → Prop) : Prop :=
  match looks o.op with
  | true => vcS (fun φ => φ w) T o E (fun E => K E w)
  | false => vcE P T o E w K
/-- A guarded operation: parted on the guard's bool, which is then written out. -/
def vcG (ops : Array Oper) (o : Oper) (E : Env) (yes no : Env → Prop) : Prop :=
  match o.guard with
  | none => yes E
  | some (j, want) => match (ops[j]?).bind (·.dst) with
    | some s => match opd E (.tmp s) with
      | some (.bool b) => bsplit b
          (match want with | true => yes ((s, .bool true) :: E) | false => no ((s, .bool true) :: E))
          (match want with | true => no ((s, .bool false) :: E) | false => yes ((s, .bool false) :: E))
      | some _ => no E
      | none => False
    | none => no E
def vcOps (ops : Array Oper) : List Oper → Env → World → (Env → World → Prop) → Prop
  | [], E, w, K => K E w
  | o :: r, E, w, K => vcG ops o E (fun E => vcStep P T o E w fun E w => vcOps ops r E w K) (fun E => vcOps ops r (putE o.dst undef E) w K)
def firstLook (ops : Array Oper) : List Nat → Option Nat
  | [] => none
  | i :: r => match ops[i]? with
    | some o => match looks o.op with
      | true => some i
      | false => firstLook ops r
    | none => firstLook ops r
def vcAll : List Nat → (Nat → Prop) → Prop
  | [], _ => True
  | [i], k => k i
  | i :: j :: r, k => k i ∧ vcAll (j :: r) k
/-- Is operation j ahead of this one, by its edges or by an edge's own? -/
def before (ops : Array Oper) : Nat → Oper → Nat → Bool
  | 0, _, _ => false
  | f + 1, o, j => o.after.any fun e => Region.binds .any e && (Nat.beq e.on j || match ops[e.on]? with
    | some o' => before ops f o' j
    | none => false)
/-- Is operation i behind all others? -/
def last (ops : Array Oper) (i : Nat) (o : Oper) : Bool :=
  (List.range ops.size).all fun j => Nat.beq j i || before ops 2 o j
/-- A region that draws its order: what only looks is carried out as soon as it may be; the others in every order that the edges allow. -/
def vcD (M : (World → Prop) → Prop) (S : World → Prop) (ops : Array Oper) : Nat → Array Bool → Env → World → (Env → World → Prop) → Prop
  | 0, listed, E, w, K => match Region.ready .any ops listed with
    | [] => K E w
    | _ => False
  | fuel + 1, listed, E, w, K =>
    match Region.ready .any ops listed with
    | [] => K E w
    | rs => match firstLook ops rs with
      | some i => match ops[i]?, Region.free .any ops listed i with
        | some o, true => vcG ops o E (fun E => vcS M T o E fun E => vcD M S ops fuel (listed.setIfInBounds i true) E w K)
            (fun E => vcD M S ops fuel (listed.setIfInBounds i true) (putE o.dst undef E) w K)
        | _, _ => False
      | none => vcAll rs fun i => match ops[i]? with
        | some o => vcG ops o E
            (fun E => vcE P T o E w fun E w => match last ops i o with
              | true => vcD M S ops fuel (listed.setIfInBounds i true) E w K
              | false => S w ∧ vcD M S ops fuel (listed.setIfInBounds i true) E w K)
            (fun E => vcD M S ops fuel (listed.setIfInBounds i true) (putE o.dst undef E) w K)
        | none => False
def allLook (ops : Array Oper) : Bool := ops.toList.all fun o => looks o.op
def dsts : Code → List Nat
  | .region _ ops _ => ops.toList.filterMap (·.dst)
  | .seq a b => dsts a ++ dsts b
  | .cond _ a b => dsts a ++ dsts b
  | .block _ c => dsts c
  | .loop c => dsts c
  | .scope c => dsts c
  | _ => []
def mem (x : Nat) : List Nat → Bool
  | [] => false
  | y :: r => match Nat.beq x y with
    | true => true
    | false => mem x r
/-- The slots that a loop's body turns and that hold something when the loop begins. -/
def carried (E : Env) : List Nat → List Nat → List Nat
  | [], _ => []
  | d :: r, seen => match mem d seen with
    | true => carried E r seen
    | false => match opd E (.tmp d) with
      | some _ => d :: carried E r (d :: seen)
      | none => carried E r (d :: seen)
def getAll (E : Env) : List Nat → Option (List Value)
  | [] => some []
  | s :: r => match opd E (.tmp s) with
    | some v => match getAll E r with
      | some l => some (v :: l)
      | none => none
    | none => none
def drop (ds : List Nat) : Env → Env
  | [] => []
  | p :: r => match mem p.1 ds with
    | true => drop ds r
    | false => p :: drop ds r
def putAll : List Nat → List Value → Env → Env
  | s :: r, v :: l, E => (s, v) :: putAll r l E
  | _, _, E => E
def vc : Code → Env → World → (Env → World → Prop) → (Nat → Env → World → Prop) → (Env → World → Prop) → Prop
  | .skip, E, w, K, _, _ => K E w
  | .label _, E, w, K, _, _ => K E w
  | .region _ ops false, E, w, K, _, _ => vcOps P T ops ops.toList E w K
  | .region _ ops true, E, w, K, _, _ => match Region.noSelect ops, allLook ops with
    | true, true => vcD P T (fun φ => φ w.drew) (fun w' => w' = w.drew) ops ops.size (Array.replicate ops.size false) E w.drew K
    | true, false => ∃ S : World → Prop, S w.drew ∧ vcD P T (fun φ => ∀ w', S w' → φ w') S ops ops.size (Array.replicate ops.size false) E w.drew K
    | false, _ => False
  | .seq a b, E, w, K, X, R => vc a E w (fun E w => vc b E w K X R) X R
  | .cond c a b, E, w, K, X, R => match c, opd E c with
    | .tmp s, some (.bool t) => bsplit t (vc a ((s, .bool true) :: E) w K X R) (vc b ((s, .bool false) :: E) w K X R)
    | .const _, some (.bool t) => bsplit t (vc a E w K X R) (vc b E w K X R)
    | _, _ => False
  | .block id c, E, w, K, X, R => vc c E w K (fun i E w => match Nat.beq i id with
    | true => K E w
    | false => X i E w) R
  | .loop c, E, w, _, X, R =>
    let ds := dsts c
    let cs := carried E ds []
    match getAll E cs with
    | some vs => match shsOf vs with
      | some shs => onO (HT.dec shs vs) fun x₀ =>
        loopR x₀ w fun x w next => vc c (putAll cs (HT.vals shs x) (drop ds E)) w
          (fun E' w' => match getAll E' cs with
            | some vs' => onO (HT.dec shs vs') fun x' => next x' w'
            | none => False) X R
      | none => False
    | none => False
  | .scope c, E, w, K, X, R => vc c E w K X R
  | .exit i, E, w, _, X, _ => X i E w
  | .ret, E, w, _, _, R => R E w
  | .rangeFunc .., _, _, _, _, _ => False
  | .goto _, _, _, _, _, _ => False
  | .refuse _, _, _, _, _, _ => False
/-- The results as they stand at the end. -/
def vcRes (E : Env) (w : World) : List ResultVar → (List Value → Prop) → Prop
  | [], k => k []
  | .tmp t :: r, k => onV (opd E (.tmp t)) fun v => vcRes E w r fun l => k (v :: l)
  | .cell a t :: r, k => match opd E (.tmp a), T.ty t with
    | some (.pointer p), some i => onP p fun ad => ∃ x : i.ty.T, cellsAt w ad 0 (i.ty.vals x) ∧ vcRes E w r fun l => k (i.ty.v x :: l)
    | _, _ => False
def args : Nat → List Value → Env
  | _, [] => []
  | i, v :: r => (i, v) :: args (i + 1) r
/-- A function's condition. -/
def vcF (fn : Func) (rs : List Ty) (as : List Value) (w : World) (post : RT rs → World → Prop) : Prop :=
  match fn.body with
  | some c =>
    let R := fun E w => vcRes T E w fn.results.toList fun l => onO (RT.dec rs l) fun x => post x w
    vc P T c (args 0 as) w R (fun _ _ _ => False) R
  | none => False
/-- every slot that is written is there. -/
def okFn (fn : Func) (n : Nat) : Bool :=
  match fn.body with
  | some c => (dsts c).all (fun d => Nat.blt d fn.ntmps) && Nat.ble n fn.ntmps
  | none => false
end

end Go.Vc
