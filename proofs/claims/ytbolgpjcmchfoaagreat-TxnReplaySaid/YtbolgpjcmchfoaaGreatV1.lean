/- A generator of conditions over the program form: what it computes, and why it is sound. -/
import Derived.Calls
import Derived.Scope
import Derived.Orders
import Derived.Laws.World
/- A verification condition of a function's code, computed by the kernel from the code itself, and sound for 'Calls': definitions. -/
namespace Go.Vc
open Go

/-! ### Shapes of cells, types, tables -/
/-- A slice's header. -/
structure SV where
  a : Option Addr
  n : Nat
  c : Nat
/-- What one cell may hold. -/
inductive Sh where
  | int (k : IntKind) | bool | ptr | slice | map | str | func | iface
def Sh.T : Sh → Type
  | .int _ => Int
  | .bool => Bool
  | .ptr => Option Addr
  | .slice => SV
  | .map => Option Nat
  | .str => ByteArray
  | .func => Option (Fn × Array Value × Array Value)
  | .iface => Option (Nat × Value)
def Sh.v : (s : Sh) → s.T → Value
  | .int k, x => .int k x
  | .bool, x => .bool x
  | .ptr, x => .pointer x
  | .slice, x => .slice (SV.a x) (SV.n x) (SV.c x)
  | .map, x => .map x
  | .str, x => .string x
  | .func, x => match x with
    | some (f, a, b) => .func f a b
    | none => .nilFunc
  | .iface, x => match x with
    | some (t, v) => .iface t v
    | none => .nilIface
def Sh.zero : Sh → Value
  | .int k => .int k 0
  | .bool => .bool false
  | .ptr => .pointer none
  | .slice => .slice none 0 0
  | .map => .map none
  | .str => .string ByteArray.empty
  | .func => .nilFunc
  | .iface => .nilIface
/-- Tuples over shapes. -/
def HT : List Sh → Type
  | [] => Unit
  | [a] => a.T
  | a :: b :: r => a.T × HT (b :: r)
def HT.vals : (l : List Sh) → HT l → List Value
  | [], _ => []
  | [a], x => [a.v x]
  | a :: b :: r, x => a.v x.1 :: HT.vals (b :: r) x.2
inductive Ty where
  | cell (s : Sh)
  | agg (l : List Sh)
def Ty.T : Ty → Type
  | .cell s => s.T
  | .agg l => HT l
def Ty.v : (t : Ty) → t.T → Value
  | .cell s, x => s.v x
  | .agg l, x => .agg (HT.vals l x).toArray
def Ty.vals : (t : Ty) → t.T → List Value
  | .cell s, x => [s.v x]
  | .agg l, x => HT.vals l x
/-- Tuples over types: results. -/
def RT : List Ty → Type
  | [] => Unit
  | [a] => a.T
  | a :: b :: r => a.T × RT (b :: r)
def RT.vals : (l : List Ty) → RT l → List Value
  | [], _ => []
  | [a], x => [a.v x]
  | a :: b :: r, x => a.v x.1 :: RT.vals (b :: r) x.2
def oneOf : List Value → Value
  | [v] => v
  | l => .tuple l.toArray
def RT.ret (l : List Ty) (x : RT l) : Value := oneOf (RT.vals l x)
/-! decoding -/
def Sh.dec : (s : Sh) → Value → Option s.T
  | .int k, .int k' n => match decEq k k' with | .isTrue _ => some n | .isFalse _ => none
  | .bool, .bool b => some b
  | .ptr, .pointer a => some a
  | .slice, .slice a n c => some (SV.mk a n c)
  | .map, .map r => some r
  | .str, .string s => some s
  | .func, .func f x y => some (some (f, x, y))
  | .func, .nilFunc => some none
  | .iface, .nilIface => some none
  | .iface, .iface t v => some (some (t, v))
  | _, _ => none
def HT.dec : (l : List Sh) → List Value → Option (HT l)
  | [], [] => some ()
  | [a], [v] => a.dec v
  | a :: b :: r, v :: u :: vs =>
    match a.dec v with
    | some x => match HT.dec (b :: r) (u :: vs) with
      | some y => some (x, y)
      | none => none
    | none => none
  | _, _ => none
def Ty.dec : (t : Ty) → Value → Option t.T
  | .cell s, v => s.dec v
  | .agg l, .agg cs => HT.dec l cs.toList
  | .agg _, _ => none
def RT.dec : (l : List Ty) → List Value → Option (RT l)
  | [], [] => some ()
  | [a], [v] => a.dec v
  | a :: b :: r, v :: u :: vs =>
    match a.dec v with
    | some x => match RT.dec (b :: r) (u :: vs) with
      | some y => some (x, y)
      | none => none
    | none => none
  | _, _ => none
def shOf : Value → Option Sh
  | .int k _ => some (.int k)
  | .bool _ => some .bool
  | .pointer _ => some .ptr
  | .slice _ _ _ => some .slice
  | .map _ => some .map
  | .string _ => some .str
  | .func _ _ _ => some .func
  | .nilFunc => some .func
  | .nilIface => some .iface
  | .iface _ _ => some .iface
  | _ => none
def shsOf : List Value → Option (List Sh)
  | [] => some []
  | v :: r => match shOf v with
    | some s => match shsOf r with
      | some l => some (s :: l)
      | none => none
    | none => none
/-! types of the program -/
inductive Kind where
  | int (k : IntKind) | bool | str | ptr | slice (e : Nat) | map (k e : Nat) | struct (fs : List (Nat × Nat)) | arr (n e : Nat) | func | iface
structure TInfo where
  kind : Kind
  sh : List Sh
  bytes : Nat
def TInfo.ty (i : TInfo) : Ty :=
  match i.kind with
  | .struct _ => .agg i.sh
  | .arr _ _ => .agg i.sh
  | _ => match i.sh with
    | [s] => .cell s
    | l => .agg l
def TInfo.zcells (i : TInfo) : List Value := i.sh.map Sh.zero
def TInfo.zero (i : TInfo) : Value :=
  match i.kind with
  | .struct _ => .agg i.zcells.toArray
  | .arr _ _ => .agg i.zcells.toArray
  | _ => match i.sh with
    | [s] => s.zero
    | l => .agg (l.map Sh.zero).toArray
structure Tab where
  ty : Nat → Option TInfo
  fn : Nat → Option (List Ty)

/-! ### Frames -/
abbrev Env := List (Nat × Value)
def get : Env → Nat → Option Value
  | [], _ => none
  | (k, v) :: r, t => match Nat.beq k t with
    | true => some v
    | false => get r t
/-- slots from here on are hints: which map an iterator goes over. -/
def hint (t : Nat) : Nat := 1000000 + t
def opd (E : Env) : Operand → Option Value
  | .tmp t => match Nat.blt t 1000000 with
    | true => get E t
    | false => none
  | .const v => some v
  | .func f => some (.func (.func f) #[] #[])
  | .global g => some (.pointer (some ⟨g, 0, none⟩))
def opds (E : Env) : List Operand → Option (List Value)
  | [] => some []
  | x :: r => match opd E x with
    | some v => match opds E r with
      | some l => some (v :: l)
      | none => none
    | none => none
def putE (d : Option Tmp) (v : Value) (E : Env) : Env :=
  match d with
  | some d => (d, v) :: E
  | none => E
/-- a value of one cell. -/
def one : Value → Bool
  | .agg _ => false
  | .tuple _ => false
  | _ => true
/-! small words of the conditions -/
def onV (o : Option Value) (k : Value → Prop) : Prop :=
  match o with
  | some v => k v
  | none => False
def onP (a : Option Addr) (k : Addr → Prop) : Prop :=
  match a with
  | some a => k a
  | none => False
def onM (r : Option Nat) (k0 : Prop) (k : Nat → Prop) : Prop :=
  match r with
  | none => k0
  | some r => k r
/-- a name for a world, for a number. -/
def withW (w : World) (k : World → Prop) : Prop := k w
def withI (x : Int) (k : Int → Prop) : Prop := k x
def onO {α : Type} (o : Option α) (k : α → Prop) : Prop :=
  match o with
  | some v => k v
  | none => False
def bsplit (b : Bool) (x y : Prop) : Prop :=
  match b with
  | true => x
  | false => y
/-- The cells from 'ad' + i on hold these. -/
def cellsAt (w : World) (ad : Addr) : Nat → List Value → Prop
  | _, [] => True
  | i, [v] => w.cell? (ad.add i) = some v
  | i, v :: u :: r => w.cell? (ad.add i) = some v ∧ cellsAt w ad (i + 1) (u :: r)
/-- The cells from 'ad' + i on may be written. -/
def storable (w : World) (ad : Addr) : Nat → List Value → Prop
  | _, [] => True
  | i, [_] => (∃ u, w.cell? (ad.add i) = some u) ∧ w.frozen? (ad.add i) = false
  | i, _ :: u :: r => ((∃ u, w.cell? (ad.add i) = some u) ∧ w.frozen? (ad.add i) = false) ∧ storable w ad (i + 1) (u :: r)
def storeAll (w : World) (ad : Addr) : Nat → List Value → World
  | _, [] => w
  | i, v :: r => storeAll (w.setCell (ad.add i) v) ad (i + 1) r
def storeO (a : Option Addr) (w : World) (off : Nat) (vs : List Value) : World :=
  match a with
  | some ad => storeAll w (ad.add off) 0 vs
  | none => w
/-- A loop: an invariant and a measure. -/
def loopR {α : Type} (x₀ : α) (w : World) (body : α → World → (α → World → Prop) → Prop) : Prop :=
  ∃ (I : α → World → Prop) (μ : α → World → Nat), I x₀ w ∧ ∀ x w, I x w → body x w fun x' w' => I x' w' ∧ μ x' w' < μ x w
/-- A map's entry whose key is an integer. -/
structure En where
  k : Int
  v : Value
  b : Nat
def En.e (kd : IntKind) (x : En) : MapEntry := ⟨.int kd x.k, x.v, x.b⟩
def entries (kd : IntKind) (l : List En) : Array MapEntry := (l.map (En.e kd)).toArray
def findE : List En → Int → Option Value
  | [], _ => none
  | e :: r, k => if k = e.k then some e.v else findE r k
def setE : List En → Int → Value → List En
  | [], _, _ => []
  | e :: r, k, v => if k = e.k then ⟨k, v, e.b⟩ :: r else e :: setE r k v
def hasE : List En → Int → Bool
  | [], _ => false
  | e :: r, k => if k = e.k then true else hasE r k
def delE : List En → Int → List En
  | [], _ => []
  | e :: r, k => if k = e.k then r else e :: delE r k
def putM (l : List En) (clock : Nat) (k : Int) (v : Value) : List En := if hasE l k = true then setE l k v else l ++ [⟨k, v, clock⟩]
def putClock (l : List En) (clock : Nat) (k : Int) : Nat := if hasE l k = true then clock else clock + 1
def World.setObj (w : World) (r : Nat) (o : Obj) : World := { w with heap := w.heap.setIfInBounds r o }
def mapAt (w : World) (r : Nat) (kd : IntKind) (es : List En) (clock : Nat) : Prop := w.heap[r]? = some (.map (entries kd es) clock)

/-! ### Values that an operation computes from the frame alone -/
def bin (op : BinOp) (x y : Value) : Option Value :=
  match op, x, y with
  | .add, .int k a, .int _ b => some (.int k (k.wrap (a + b)))
  | .sub, .int k a, .int _ b => some (.int k (k.wrap (a - b)))
  | .mul, .int k a, .int _ b => some (.int k (k.wrap (a * b)))
  | .eql, .int _ a, .int _ b => some (.bool (decide (a = b)))
  | .neq, .int _ a, .int _ b => some (.bool (!decide (a = b)))
  | .lss, .int _ a, .int _ b => some (.bool (decide (a < b)))
  | .leq, .int _ a, .int _ b => some (.bool (decide (a ≤ b)))
  | .gtr, .int _ a, .int _ b => some (.bool (decide (b < a)))
  | .geq, .int _ a, .int _ b => some (.bool (decide (b ≤ a)))
  | .eql, .string a, .string b => some (.bool (a.toList == b.toList))
  | .neq, .string a, .string b => some (.bool (!(a.toList == b.toList)))
  | _, _, _ => none
def sameKind : Value → Value → Bool
  | .int k _, .int k' _ => match decEq k k' with | .isTrue _ => true | .isFalse _ => false
  | .string _, .string _ => true
  | _, _ => false
/-- '==' of a pointer, a slice, a map, a function with nil; of bools. -/
def eqv (kd : Kind) (x y : Value) : Option Bool :=
  match kd, x, y with
  | .bool, .bool a, .bool b => some (a == b)
  | .ptr, .pointer a, .pointer none => some a.isNone
  | .ptr, .pointer none, .pointer b => some b.isNone
  | .slice _, .slice a _ _, .slice none _ _ => some a.isNone
  | .slice _, .slice none _ _, .slice b _ _ => some b.isNone
  | .map _ _, .map a, .map none => some a.isNone
  | .map _ _, .map none, .map b => some b.isNone
  | _, _, _ => none
def sub? (a : Option Addr) (l m e : Nat) : Option Addr := if m = l then a else a.map (·.add (l * e))
/-- the bound of a slice expression. -/
def bound (d : Int) : Option Value → Option Int
  | none => some d
  | some (.int _ i) => some i
  | some _ => none
def opdO (E : Env) : Option Operand → Option (Option Value)
  | none => some none
  | some x => match opd E x with
    | some v => some (some v)
    | none => none
/-- which operations only look. -/
def looks : Op → Bool
  | .move _ | .assign _ | .pick .. | .load .. | .nilCheck _ | .binOp .. | .unOp .. | .convert .. | .makeFunc .. | .slice .. | .fieldAddr .. | .indexAddr .. | .index .. | .lookup .. | .extract .. | .build .. => true
  | .call { callee := .builtin .len, .. } => true
  | .call { callee := .builtin .cap, .. } => true
  | .call { callee := .builtin .min, .. } => true
  | .call { callee := .builtin .max, .. } => true
  | _ => false
def min2 : Value → Value → Option Value
  | .int k x, .int _ y => some (.int k (if y < x then y else x))
  | _, _ => none
def max2 : Value → Value → Option Value
  | .int k x, .int _ y => some (.int k (if y > x then y else x))
  | _, _ => none
def parts (E : Env) : List (Nat × Operand) → Option (List (Nat × Value))
  | [] => some []
  | (i, x) :: r => match opd E x with
    | some v => match parts E r with
      | some l => some ((i, v) :: l)
      | none => none
    | none => none
/-- A literal's cells: parts at (offset, size). -/
def fillL (place : Nat → Option (Nat × Nat)) (cells : Array Value) (ps : List (Nat × Value)) : Option (Array Value) := Instr.fill place cells ps
def zrow (z : List Value) : Nat → List Value
  | 0 => []
  | n + 1 => z ++ zrow z n
def bytesOf (l : List UInt8) : List Value := l.map fun b => .int .u8 b.toNat

section
variable (M : (World → Prop) → Prop) (T : Tab)
/-- An operation that only looks. 'M': what holds of the world (or worlds) in which it may be carried out. -/
def vcS (o : Oper) (E : Env) (K : Env → Prop) : Prop :=
  match o.op with
  | .move x => onV (opd E x) fun v => K (putE o.dst v E)
  | .assign x => onV (opd E x) fun v => K (putE o.dst v E)
  | .pick c a b => match opd E c with
    | some (.bool c) => bsplit c (onV (opd E a) fun v => K (putE o.dst v E)) (onV (opd E b) fun v => K (putE o.dst v E))
    | _ => False
  | .nilCheck x => match opd E x with
    | some (.pointer p) => onP p fun ad => K (putE o.dst (.pointer (some ad)) E)
    | some (.func (.func f) fs cs) => K (putE o.dst (.func (.func f) fs cs) E)
    | _ => False
  | .load t x => match opd E x with
    | some (.pointer p) => onP p fun ad => match T.ty t with
      | some i => ∃ x : i.ty.T, M (fun w => cellsAt w ad 0 (i.ty.vals x)) ∧ K (putE o.dst (i.ty.v x) E)
      | none => False
    | _ => False
  | .fieldAddr s x f => match opd E x with
    | some (.pointer p) => onP p fun ad => match T.ty s with
      | some ⟨.struct fs, _, _⟩ => match fs[f]? with
        | some (off, _ + 1) => K (putE o.dst (.pointer (some (ad.add off))) E)
        | _ => False
      | _ => False
    | _ => False
  | .indexAddr t x ix => match opd E x, opd E ix with
    | some (.slice a n _), some (.int _ i) => match T.ty t with
      | some ⟨.slice e, _, _⟩ => match T.ty e with
        | some ie => 0 ≤ i ∧ i < n ∧ onP a fun ad => K (putE o.dst (.pointer (some (ad.add (i.toNat * ie.sh.length)))) E)
        | none => False
      | _ => False
    | _, _ => False
  | .index t x ix => match opd E x, opd E ix with
    | some (.agg cs), some (.int _ i) => match T.ty t with
      | some ⟨.arr n e, _, _⟩ => match T.ty e with
        | some ie => match ie.ty with
          | .cell s => 0 ≤ i ∧ i < n ∧ ∃ x : s.T, cs[i.toNat * ie.sh.length]? = some (s.v x) ∧ K (putE o.dst (s.v x) E)
          | .agg _ => False
        | none => False
      | _ => False
    | _, _ => False
  | .binOp .rem _ x y _ => match opd E x, opd E y with
    | some (.int k a), some (.int k' b) => sameKind (.int k 0) (.int k' 0) = true ∧ b ≠ 0 ∧ K (putE o.dst (.int k (a.tmod b)) E)
    | _, _ => False
  | .binOp .quo _ x y _ => match opd E x, opd E y with
    | some (.int k a), some (.int k' b) => sameKind (.int k 0) (.int k' 0) = true ∧ b ≠ 0 ∧ K (putE o.dst (.int k (k.wrap (a.tdiv b))) E)
    | _, _ => False
  | .binOp op t x y _ => match opd E x, opd E y with
    | some a, some b => match sameKind a b with
      | true => onV (bin op a b) fun v => K (putE o.dst v E)
      | false => match T.ty t, op with
        | some i, .eql => match eqv i.kind a b with
          | some r => K (putE o.dst (.bool r) E)
          | none => False
        | some i, .neq => match eqv i.kind a b with
          | some r => K (putE o.dst (.bool (!r)) E)
          | none => False
        | _, _ => False
    | _, _ => False
  | .unOp .not _ x => match opd E x with
    | some (.bool b) => K (putE o.dst (.bool (!b)) E)
    | _ => False
  | .unOp .neg _ x => match opd E x with
    | some (.int k b) => K (putE o.dst (.int k (k.wrap (0 - b))) E)
    | _ => False
  | .convert s d x => match opd E x, T.ty s, T.ty d with
    | some (.int _ n), some ⟨.int _, _, _⟩, some ⟨.int k, _, _⟩ => K (putE o.dst (.int k (k.wrap n)) E)
    | some (.slice a n _), some ⟨.slice e, _, _⟩, some ⟨.str, _, _⟩ => match T.ty e with
      | some ⟨.int .u8, _, _⟩ => ∃ l : List UInt8, l.length = n ∧ (∀ ad, a = some ad → M (fun w => cellsAt w ad 0 (bytesOf l))) ∧ (a = none → l = []) ∧ K (putE o.dst (.string ⟨l.toArray⟩) E)
      | _ => False
    | _, _, _ => False
  | .makeFunc fn fs cs => match opds E fs.toList, opds E cs.toList with
    | some a, some b => K (putE o.dst (.func fn a.toArray b.toArray) E)
    | _, _ => False
  | .extract x i => match opd E x with
    | some (.tuple vs) => onV vs[i]? fun v => K (putE o.dst v E)
    | _ => False
  | .build t ps => match T.ty t with
    | some ⟨.struct fs, sh, _⟩ => match parts E ps.toList with
      | some l => match fillL (fun i => fs[i]?) (sh.map Sh.zero).toArray l with
        | some cs => K (putE o.dst (.agg cs) E)
        | none => False
      | none => False
    | some ⟨.arr _ e, sh, _⟩ => match T.ty e with
      | some ie => match parts E ps.toList with
        | some l => match fillL (fun i => some (i * ie.sh.length, ie.sh.length)) (sh.map Sh.zero).toArray l with
          | some cs => K (putE o.dst (.agg cs) E)
          | none => False
        | none => False
      | none => False
    | _ => False
  | .slice t x lo hi none => match opd E x, opdO E lo, opdO E hi with
    | some (.slice a n c), some l, some h => match T.ty t with
      | some ⟨.slice e, _, _⟩ => match T.ty e with
        | some ie => match bound 0 l, bound n h with
          | some l, some h => 0 ≤ l ∧ l ≤ h ∧ h ≤ c ∧ K (putE o.dst (.slice (sub? a l.toNat c ie.sh.length) (h.toNat - l.toNat) (c - l.toNat)) E)
          | _, _ => False
        | none => False
      | _ => False
    | _, _, _ => False
  | .lookup t m k ok => match opd E m, opd E k, T.ty t with
    | some (.map r), some (.int kd k), some ⟨.map kt e, _, _⟩ => match T.ty kt, T.ty e with
      | some ⟨.int kd', _, _⟩, some ie => sameKind (.int kd 0) (.int kd' 0) = true ∧ onM r (K (putE o.dst (match ok with | true => .tuple #[ie.zero, .bool false] | false => ie.zero) E))
        fun r => ∃ es : List En, M (fun w => ∃ clock, mapAt w r kd es clock) ∧ ∃ x : ie.ty.T, (findE es k).getD ie.zero = ie.ty.v x ∧
          K (putE o.dst (match ok with | true => .tuple #[ie.ty.v x, .bool (findE es k).isSome] | false => ie.ty.v x) E)
      | _, _ => False
    | _, _, _ => False
  | .call { callee := .builtin .len, args, argTypes } => match opds E args.toList with
    | some [.slice _ n _] => match argTypes.toList with
      | t :: _ => match T.ty t with
        | some ⟨.slice _, _, _⟩ => K (putE o.dst (.int .i64 n) E)
        | _ => False
      | _ => False
    | some [.string s] => match argTypes.toList with
      | t :: _ => match T.ty t with
        | some ⟨.str, _, _⟩ => K (putE o.dst (.int .i64 s.size) E)
        | _ => False
      | _ => False
    | some [.map r] => match argTypes.toList with
      | t :: _ => match T.ty t with
        | some ⟨.map kt _, _, _⟩ => match T.ty kt with
          | some ⟨.int kd, _, _⟩ => onM r (K (putE o.dst (.int .i64 0) E)) fun r => ∃ es : List En, M (fun w => ∃ clock, mapAt w r kd es clock) ∧ K (putE o.dst (.int .i64 es.length) E)
          | _ => False
        | _ => False
      | _ => False
    | _ => False
  | .call { callee := .builtin .cap, args, argTypes } => match opds E args.toList with
    | some [.slice _ _ c] => match argTypes.toList with
      | t :: _ => match T.ty t with
        | some ⟨.slice _, _, _⟩ => K (putE o.dst (.int .i64 c) E)
        | _ => False
      | _ => False
    | _ => False
  | .call { callee := .builtin .min, args, .. } => match opds E args.toList with
    | some [a, b] => onV (min2 a b) fun v => K (putE o.dst v E)
    | _ => False
  | .call { callee := .builtin .max, args, .. } => match opds E args.toList with
    | some [a, b] => onV (max2 a b) fun v => K (putE o.dst v E)
    | _ => False
  | _ => False
end

/-- What no operation here turns. -/
structure Wsame (w w' : World) : Prop where
  os : w'.os = w.os
  tape : w'.tape = w.tape
  output : w'.output = w.output
theorem Wsame.refl (w : World) : Wsame w w := ⟨rfl, rfl, rfl⟩
theorem Wsame.trans {a b c : World} (h : Wsame a b) (k : Wsame b c) : Wsame a c := ⟨k.os.trans h.os, k.tape.trans h.tape, k.output.trans h.output⟩
theorem Wsame.storeAll (ad : Addr) : ∀ (vs : List Value) (i : Nat) (w : World), Wsame w (storeAll w ad i vs)
  | [], _, w => Wsame.refl w
  | v :: r, i, w => (show Wsame w (w.setCell (ad.add i) v) from ⟨rfl, rfl, rfl⟩).trans (Wsame.storeAll ad r (i + 1) (w.setCell (ad.add i) v))
theorem Wsame.storeO (a : Option Addr) (w : World) (n : Nat) (vs : List Value) : Wsame w (storeO a w n vs) := by
  cases a with
  | none => exact Wsame.refl w
  | some ad => exact Wsame.storeAll _ _ _ _
/-- A call, with its results in their shapes. -/
def callsR (P : Program) (f : FuncId) (args : Array Value) (rs : List Ty) (w : World) (k : RT rs → World → Prop) : Prop :=
  Calls P f args w fun e w' => Wsame w w' ∧ ∃ x : RT rs, e = .returned (RT.ret rs x) ∧ k x w'

/-- what an append leaves: in place. -/
def newCapOk (n m c bytes : Nat) : Prop := Builtin.nextslicecap (n + m) c * bytes ≤ 2 ^ 48

def appendR (a b : SV) (sz bytes : Nat) (z : List Value) (e : Nat) (w : World) (K : SV → World → Prop) : Prop :=
  ∃ news : List Value, news.length = b.n * sz ∧ news.all one = true ∧
    (∀ ad, b.a = some ad → cellsAt w ad 0 news) ∧ (b.a = none → b.n = 0) ∧
    (a.n + b.n ≤ a.c → (∀ ad, a.a = some ad → storable w (ad.add (a.n * sz)) 0 news) ∧ K ⟨a.a, a.n + b.n, a.c⟩ (storeO a.a w (a.n * sz) news)) ∧
    (a.c < a.n + b.n → newCapOk a.n b.n a.c bytes ∧ bytes ≠ 0 ∧ ∃ olds : List Value, olds.length = a.n * sz ∧ (∀ ad, a.a = some ad → cellsAt w ad 0 olds) ∧ (a.a = none → a.n = 0) ∧
      ∀ cap, a.n + b.n ≤ cap → K ⟨some ⟨w.heap.size, 0, none⟩, a.n + b.n, cap⟩ (w.alloc (.cells (olds ++ news ++ zrow z (cap - (a.n + b.n))).toArray e)).drew)
def copyR (a b : SV) (sz : Nat) (w : World) (K : Int → World → Prop) : Prop :=
  ∃ news : List Value, news.length = min b.n a.n * sz ∧ news.all one = true ∧ (∀ ad, b.a = some ad → cellsAt w ad 0 news) ∧ (b.a = none → b.n = 0) ∧
    (∀ ad, a.a = some ad → storable w ad 0 news) ∧ K (min b.n a.n : Nat) (storeO a.a w 0 news)

/-- zeros behind a row that has no room for them. -/
def appendZ (a : SV) (m : Int) (sz bytes : Nat) (z : List Value) (e : Nat) (w : World) (K : SV → World → Prop) : Prop :=
  0 ≤ m ∧ m ≤ 2 ^ 48 ∧ m * bytes ≤ 2 ^ 48 ∧ a.n ≤ 2 ^ 48 ∧ a.c < a.n + m.toNat ∧ newCapOk a.n m.toNat a.c bytes ∧ bytes ≠ 0 ∧ ∃ olds : List Value, olds.length = a.n * sz ∧ (∀ ad, a.a = some ad → cellsAt w ad 0 olds) ∧ (a.a = none → a.n = 0) ∧
      ∀ cap, a.n + m.toNat ≤ cap → K ⟨some ⟨w.heap.size, 0, none⟩, a.n + m.toNat, cap⟩ (w.alloc (.cells (olds ++ zrow z m.toNat ++ zrow z (cap - (a.n + m.toNat))).toArray e)).drew

/-- An operation that makes memory, writes it, or calls. -/
def vcE (P : Program) (T : Tab) (o : Oper) (E : Env) (w : World) (K : Env → World → Prop) : Prop :=
  match o.op with
  | .store t x v => match opd E x, opd E v with
    | some (.pointer p), some v => onP p fun ad => match T.ty t with
      | some i => match Nat.beq v.cells.size i.sh.length with
        | true => storable w ad 0 v.cells.toList ∧ v.cells.toList.all one = true ∧ K (putE o.dst undef E) (storeAll w ad 0 v.cells.toList)
        | false => False
      | none => False
    | _, _ => False
  | .alloc t => match T.ty t with
    | some i => K (putE o.dst (.pointer (some ⟨w.heap.size, 0, none⟩)) E) (w.alloc (.cells i.zero.cells t))
    | none => False
  | .box t x => match opd E x with
    | some v => K (putE o.dst (.pointer (some ⟨w.heap.size, 0, none⟩)) E) (w.alloc (.cells v.cells t))
    | none => False
  | .buildSlice t len ps => match T.ty t with
    | some ⟨.slice e, _, _⟩ => match T.ty e with
      | some ie => match parts E ps.toList, Nat.ble (len * ie.sh.length) 1000 with
        | some l, true => match fillL (fun i => some (i * ie.sh.length, ie.sh.length)) (zrow ie.zcells len).toArray l with
          | some cs => K (putE o.dst (.slice (some ⟨w.heap.size, 0, none⟩) len len) E) (w.alloc (.cells cs e))
          | none => False
        | _, _ => False
      | none => False
    | _ => False
  | .makeMap _ none => K (putE o.dst (.map (some w.heap.size)) E) (w.alloc (.map #[] 0))
  | .makeSlice t l c => match opd E l, opd E c, T.ty t with
    | some (.int .i64 l), some (.int .i64 c), some ⟨.slice e, _, _⟩ => match T.ty e with
      | some ie => 0 ≤ l ∧ l ≤ c ∧ ie.bytes * c ≤ 2 ^ 48 ∧ c ≤ 2 ^ 48 ∧
        K (putE o.dst (.slice (some ⟨w.heap.size, 0, none⟩) l.toNat c.toNat) E) (w.alloc (.cells (zrow ie.zcells c.toNat).toArray e))
      | none => False
    | _, _, _ => False
  | .mapUpdate t m k v => match opd E m, opd E k, opd E v, T.ty t with
    | some (.map r), some (.int kd k), some v, some ⟨.map kt _, _, _⟩ => match T.ty kt with
      | some ⟨.int kd', _, _⟩ => sameKind (.int kd 0) (.int kd' 0) = true ∧ onM r False fun r => ∃ (es : List En) (clock : Nat), mapAt w r kd es clock ∧ K (putE o.dst undef E) (World.setObj w r (.map (entries kd (putM es clock k v)) (putClock es clock k)))
      | _ => False
    | _, _, _, _ => False
  | .range t x => match opd E x, T.ty t, o.dst with
    | some (.map r), some ⟨.map _ _, _, _⟩, some d => onM r (K ((hint d, .int .i64 t) :: putE (some d) (.pointer (some ⟨w.heap.size, 0, none⟩)) E) (w.alloc (.mapIter none 0 #[] 0)))
      fun r => ∃ es clock, w.heap[r]? = some (.map es clock) ∧ K ((hint d, .int .i64 t) :: putE (some d) (.pointer (some ⟨w.heap.size, 0, none⟩)) E) (w.alloc (.mapIter (some r) clock #[] clock))
    | _, _, _ => False
  | .next (.tmp it) false => match opd E (.tmp it), get E (hint it) with
    | some (.pointer p), some (.int .i64 t) => match T.ty t.toNat with
      | some ⟨.map kt _, _, _⟩ => match T.ty kt with
        | some ⟨.int kd, _, _⟩ => onP p fun ad => ad.off = 0 ∧ ∃ (m : Option Nat) (since : Nat) (seen : Array Nat) (st : Nat), w.heap[ad.block]? = some (.mapIter m since seen st) ∧ onM m (K (putE o.dst (.tuple #[.bool false]) E) w)
          fun m => ∃ (es : List En) (clock : Nat), mapAt w m kd es clock ∧ (seen = #[] ∨ es = [] ∨ ∃ e ∈ es, e.b < st) ∧
              (∀ e ∈ es, e.b ∉ seen → ∀ w1, (w1 = w ∨ w1 = w.drew) → K (putE o.dst (.tuple #[.bool true, .int kd e.k, e.v]) E) (World.setObj w1 ad.block (.mapIter (some m) since (seen.push e.b) clock))) ∧
              ((∀ e ∈ es, e.b < since → e.b ∈ seen) → ∀ w1, (w1 = w ∨ w1 = w.drew) → K (putE o.dst (.tuple #[.bool false]) E) w1)
        | _ => False
      | _ => False
    | _, _ => False
  | .entry (.tmp it) => match opd E (.tmp it), get E (hint it) with
    | some (.pointer p), some (.int .i64 t) => match T.ty t.toNat with
      | some ⟨.map kt et, _, _⟩ => match T.ty kt, T.ty et with
        | some ⟨.int kd, _, _⟩, some ie => onP p fun ad => ad.off = 0 ∧ ∃ (m since : Nat) (seen : Array Nat) (st : Nat), w.heap[ad.block]? = some (.mapIter (some m) since seen st) ∧
          ∃ (es : List En), mapAt w m kd es st ∧ ∃ e, seen.back? = some e.b ∧ e ∈ es ∧ (∀ f ∈ es, f.b = e.b → f = e) ∧ ∃ x : ie.ty.T, e.v = ie.ty.v x ∧ K (putE o.dst (.tuple #[.int kd e.k, ie.ty.v x]) E) w
        | _, _ => False
      | _ => False
    | _, _ => False
  | .call { callee := .builtin .delete, args, argTypes } => match opds E args.toList, argTypes.toList with
    | some [.map r, .int kd k], t :: _ => match T.ty t with
      | some ⟨.map kt _, _, _⟩ => match T.ty kt with
        | some ⟨.int kd', _, _⟩ => sameKind (.int kd 0) (.int kd' 0) = true ∧ onM r (K (putE o.dst (.tuple #[]) E) w) fun r => ∃ (es : List En) (clock : Nat), mapAt w r kd es clock ∧ K (putE o.dst (.tuple #[]) E) (World.setObj w r (.map (entries kd (delE es k)) clock))
        | _ => False
      | _ => False
    | _, _ => False
  | .call { callee := .builtin .append, args, argTypes } => match opds E args.toList, argTypes.toList with
    | some [.slice a n c, .slice b m _], [t, t'] => match T.ty t, T.ty t' with
      | some ⟨.slice e, _, _⟩, some ⟨.slice _, _, _⟩ => match T.ty e with
        | some ie => ∃ news : List Value, news.length = m * ie.sh.length ∧ news.all one = true ∧
            (∀ ad, b = some ad → cellsAt w ad 0 news) ∧ (b = none → m = 0) ∧
            (n + m ≤ c → (∀ ad, a = some ad → storable w (ad.add (n * ie.sh.length)) 0 news) ∧
              K (putE o.dst (.slice a (n + m) c) E) (storeO a w (n * ie.sh.length) news)) ∧
            (c < n + m → newCapOk n m c ie.bytes ∧ ie.bytes ≠ 0 ∧ ∃ olds : List Value, olds.length = n * ie.sh.length ∧ (∀ ad, a = some ad → cellsAt w ad 0 olds) ∧ (a = none → n = 0) ∧
              ∀ cap, n + m ≤ cap → K (putE o.dst (.slice (some ⟨w.heap.size, 0, none⟩) (n + m) cap) E) (w.alloc (.cells (olds ++ news ++ zrow ie.zcells (cap - (n + m))).toArray e)).drew)
        | none => False
      | _, _ => False
    | some [.slice a n c, .int .i64 m], [t, t'] => match T.ty t, T.ty t' with
      | some ⟨.slice e, _, _⟩, some ⟨.int _, _, _⟩ => match T.ty e with
        | some ie => appendZ ⟨a, n, c⟩ m ie.sh.length ie.bytes ie.zcells e w fun s w => K (putE o.dst (.slice s.a s.n s.c) E) w
        | none => False
      | _, _ => False
    | _, _ => False
  | .call { callee := .builtin .copy, args, argTypes } => match opds E args.toList, argTypes.toList with
    | some [.slice a n _, .slice b m _], t :: _ => match T.ty t with
      | some ⟨.slice e, _, _⟩ => match T.ty e with
        | some ie => ∃ news : List Value, news.length = min m n * ie.sh.length ∧ news.all one = true ∧ (∀ ad, b = some ad → cellsAt w ad 0 news) ∧ (b = none → m = 0) ∧
            (∀ ad, a = some ad → storable w ad 0 news) ∧ K (putE o.dst (.int .i64 (min m n : Nat)) E) (storeO a w 0 news)
        | none => False
      | _ => False
    | _, _ => False
  | .call { callee := .value f, args, .. } => match opd E f, opds E args.toList with
    | some (.func (.func f) fs cs), some args => match T.fn f with
      | some rs => callsR P f ((fs.toList ++ args ++ cs.toList).toArray) rs w fun x w' => K (putE o.dst (RT.ret rs x) E) w'
      | none => False
    | _, _ => False
  | _ => False

/-! ### Regions, code, functions -/
section
variable (P : Program) (T : Tab)
def vcStep (o : Oper) (E : Env) (w : World) (K : Env → World → Prop) : Prop :=
  match looks o.op with
  | true => vcS (fun φ => φ w) T o E (fun E => K E w)
  | false => vcE P T o E w K
/-- A guarded operation: parted on the guard's bool, which is then written out. -/
def vcG (ops : Array Oper) (o : Oper) (E : Env) (yes no : Env → Prop) : Prop :=
  match o.guard with
  | none => yes E
  | some (j, want) => match (ops[j]?).bind (·.dst) with
    | some s => match opd E (.tmp s) with
      | some (.bool b) => bsplit b
          (match want with | true => yes ((s, .bool true) :: E) | false => no ((s, .bool true) :: E))
          (match want with | true => no ((s, .bool false) :: E) | false => yes ((s, .bool false) :: E))
      | some _ => no E
      | none => False
    | none => no E
def vcOps (ops : Array Oper) : List Oper → Env → World → (Env → World → Prop) → Prop
  | [], E, w, K => K E w
  | o :: r, E, w, K => vcG ops o E (fun E => vcStep P T o E w fun E w => vcOps ops r E w K) (fun E => vcOps ops r (putE o.dst undef E) w K)
def firstLook (ops : Array Oper) : List Nat → Option Nat
  | [] => none
  | i :: r => match ops[i]? with
    | some o => match looks o.op with
      | true => some i
      | false => firstLook ops r
    | none => firstLook ops r
def vcAll : List Nat → (Nat → Prop) → Prop
  | [], _ => True
  | [i], k => k i
  | i :: j :: r, k => k i ∧ vcAll (j :: r) k
/-- Is operation j ahead of this one, by its edges or by an edge's own? -/
def before (ops : Array Oper) : Nat → Oper → Nat → Bool
  | 0, _, _ => false
  | f + 1, o, j => o.after.any fun e => Region.binds .any e && (Nat.beq e.on j || match ops[e.on]? with
    | some o' => before ops f o' j
    | none => false)
/-- Is operation i behind all others? -/
def last (ops : Array Oper) (i : Nat) (o : Oper) : Bool :=
  (List.range ops.size).all fun j => Nat.beq j i || before ops 2 o j
/-- A region that draws its order: what only looks is carried out as soon as it may be; the others in every order that the edges allow. -/
def vcD (M : (World → Prop) → Prop) (S : World → Prop) (ops : Array Oper) : Nat → Array Bool → Env → World → (Env → World → Prop) → Prop
  | 0, listed, E, w, K => match Region.ready .any ops listed with
    | [] => K E w
    | _ => False
  | fuel + 1, listed, E, w, K =>
    match Region.ready .any ops listed with
    | [] => K E w
    | rs => match firstLook ops rs with
      | some i => match ops[i]?, Region.free .any ops listed i with
        | some o, true => vcG ops o E (fun E => vcS M T o E fun E => vcD M S ops fuel (listed.setIfInBounds i true) E w K)
            (fun E => vcD M S ops fuel (listed.setIfInBounds i true) (putE o.dst undef E) w K)
        | _, _ => False
      | none => vcAll rs fun i => match ops[i]? with
        | some o => vcG ops o E
            (fun E => vcE P T o E w fun E w => match last ops i o with
              | true => vcD M S ops fuel (listed.setIfInBounds i true) E w K
              | false => S w ∧ vcD M S ops fuel (listed.setIfInBounds i true) E w K)
            (fun E => vcD M S ops fuel (listed.setIfInBounds i true) (putE o.dst undef E) w K)
        | none => False
def allLook (ops : Array Oper) : Bool := ops.toList.all fun o => looks o.op
def dsts : Code → List Nat
  | .region _ ops _ => ops.toList.filterMap (·.dst)
  | .seq a b => dsts a ++ dsts b
  | .cond _ a b => dsts a ++ dsts b
  | .block _ c => dsts c
  | .loop c => dsts c
  | .scope c => dsts c
  | _ => []
def mem (x : Nat) : List Nat → Bool
  | [] => false
  | y :: r => match Nat.beq x y with
    | true => true
    | false => mem x r
/-- The slots that a loop's body turns and that hold something when the loop begins. -/
def carried (E : Env) : List Nat → List Nat → List Nat
  | [], _ => []
  | d :: r, seen => match mem d seen with
    | true => carried E r seen
    | false => match opd E (.tmp d) with
      | some _ => d :: carried E r (d :: seen)
      | none => carried E r (d :: seen)
def getAll (E : Env) : List Nat → Option (List Value)
  | [] => some []
  | s :: r => match opd E (.tmp s) with
    | some v => match getAll E r with
      | some l => some (v :: l)
      | none => none
    | none => none
def drop (ds : List Nat) : Env → Env
  | [] => []
  | p :: r => match mem p.1 ds with
    | true => drop ds r
    | false => p :: drop ds r
def putAll : List Nat → List Value → Env → Env
  | s :: r, v :: l, E => (s, v) :: putAll r l E
  | _, _, E => E
def vc : Code → Env → World → (Env → World → Prop) → (Nat → Env → World → Prop) → (Env → World → Prop) → Prop
  | .skip, E, w, K, _, _ => K E w
  | .label _, E, w, K, _, _ => K E w
  | .region _ ops false, E, w, K, _, _ => vcOps P T ops ops.toList E w K
  | .region _ ops true, E, w, K, _, _ => match Region.noSelect ops, allLook ops with
    | true, true => vcD P T (fun φ => φ w.drew) (fun w' => w' = w.drew) ops ops.size (Array.replicate ops.size false) E w.drew K
    | true, false => ∃ S : World → Prop, S w.drew ∧ vcD P T (fun φ => ∀ w', S w' → φ w') S ops ops.size (Array.replicate ops.size false) E w.drew K
    | false, _ => False
  | .seq a b, E, w, K, X, R => vc a E w (fun E w => vc b E w K X R) X R
  | .cond c a b, E, w, K, X, R => match c, opd E c with
    | .tmp s, some (.bool t) => bsplit t (vc a ((s, .bool true) :: E) w K X R) (vc b ((s, .bool false) :: E) w K X R)
    | .const _, some (.bool t) => bsplit t (vc a E w K X R) (vc b E w K X R)
    | _, _ => False
  | .block id c, E, w, K, X, R => vc c E w K (fun i E w => match Nat.beq i id with
    | true => K E w
    | false => X i E w) R
  | .loop c, E, w, _, X, R =>
    let ds := dsts c
    let cs := carried E ds []
    match getAll E cs with
    | some vs => match shsOf vs with
      | some shs => onO (HT.dec shs vs) fun x₀ =>
        loopR x₀ w fun x w next => vc c (putAll cs (HT.vals shs x) (drop ds E)) w
          (fun E' w' => match getAll E' cs with
            | some vs' => onO (HT.dec shs vs') fun x' => next x' w'
            | none => False) X R
      | none => False
    | none => False
  | .scope c, E, w, K, X, R => vc c E w K X R
  | .exit i, E, w, _, X, _ => X i E w
  | .ret, E, w, _, _, R => R E w
  | .rangeFunc .., _, _, _, _, _ => False
  | .goto _, _, _, _, _, _ => False
  | .refuse _, _, _, _, _, _ => False
/-- The results as they stand at the end. -/
def vcRes (E : Env) (w : World) : List ResultVar → (List Value → Prop) → Prop
  | [], k => k []
  | .tmp t :: r, k => onV (opd E (.tmp t)) fun v => vcRes E w r fun l => k (v :: l)
  | .cell a t :: r, k => match opd E (.tmp a), T.ty t with
    | some (.pointer p), some i => onP p fun ad => ∃ x : i.ty.T, cellsAt w ad 0 (i.ty.vals x) ∧ vcRes E w r fun l => k (i.ty.v x :: l)
    | _, _ => False
def args : Nat → List Value → Env
  | _, [] => []
  | i, v :: r => (i, v) :: args (i + 1) r
/-- A function's condition. -/
def vcF (fn : Func) (rs : List Ty) (as : List Value) (w : World) (post : RT rs → World → Prop) : Prop :=
  match fn.body with
  | some c =>
    let R := fun E w => vcRes T E w fn.results.toList fun l => onO (RT.dec rs l) fun x => post x w
    vc P T c (args 0 as) w R (fun _ _ _ => False) R
  | none => False
/-- every slot that is written is there. -/
def okFn (fn : Func) (n : Nat) : Bool :=
  match fn.body with
  | some c => (dsts c).all (fun d => Nat.blt d fn.ntmps) && Nat.ble n fn.ntmps
  | none => false
end

end Go.Vc
/- The verification condition is sound, operation by operation. -/
namespace Go.Vc
open Go

/-! ### Tables -/
def undOk (P : Program) (t : Nat) : Kind → Prop
  | .int k => P.underlying t = some (.int k)
  | .bool => P.underlying t = some .bool
  | .str => P.underlying t = some .string
  | .ptr => ∃ e, P.underlying t = some (.pointer e)
  | .slice e => P.underlying t = some (.slice e)
  | .map k e => P.underlying t = some (.map k e)
  | .struct fs => ∃ fields : Array Field, P.underlying t = some (.struct fields) ∧ fields.toList.map (fun f => (f.offset, P.cellsOf f.type)) = fs ∧ ∀ f ∈ fields.toList, (P.info? f.type).isSome = true
  | .arr n e => P.underlying t = some (.array n e)
  | .func => ∃ a b c, P.underlying t = some (.func a b c)
  | .iface => ∃ m, P.underlying t = some (.interface m)
structure TyOk (P : Program) (t : Nat) (i : TInfo) : Prop where
  und : undOk P t i.kind
  info : ∃ ti, P.info? t = some ti ∧ ti.size = i.sh.length ∧ ti.bytes = i.bytes ∧ ti.zero = some i.zero
  one : match i.kind with | .struct _ => True | .arr _ _ => True | _ => ∃ s, i.sh = [s]
structure TabOk (P : Program) (T : Tab) : Prop where
  ty : ∀ t i, T.ty t = some i → TyOk P t i
  fn : ∀ f r, T.fn f = some r → ∀ args w, (callFunc f args).run P w = .ok (.enter f args) w
  mixed : P.follows .mixedOrders = true

/-! ### Small facts -/
theorem bind_run {α β : Type} (P : Program) (m : Sem α) (f : α → Sem β) (w : World) :
    (m >>= f).run P w = match m.run P w with | .ok a w' => (f a).run P w' | .halt h w' => .halt h w' := by
  show (m.bind f).run P w = _
  induction m generalizing w with
  | pure a => rfl
  | load md a k ih =>
    simp only [Sem.bind, Sem.run]
    split
    · exact ih _ _
    · split
      · exact ih _ _
      · rfl
  | store md a v k ih =>
    cases v <;> simp only [Sem.bind, Sem.run] <;> (try rfl) <;>
    · split
      · split
        · rfl
        · exact ih _
      · split
        · exact ih _
        · rfl
  | new o k ih => simp only [Sem.bind, Sem.run]; exact ih _ _
  | shape r k ih => simp only [Sem.bind, Sem.run]; exact ih _ _
  | freeze a n k ih => simp only [Sem.bind, Sem.run]; exact ih _
  | frozen a k ih => simp only [Sem.bind, Sem.run]; exact ih _ _
  | getObj r k ih =>
    simp only [Sem.bind, Sem.run]
    split
    · rfl
    · exact ih _ _
    · rfl
  | setObj r o k ih =>
    simp only [Sem.bind, Sem.run]
    split
    · rfl
    · exact ih _
    · rfl
  | choose q k ih =>
    simp only [Sem.bind, Sem.run]
    split
    · exact ih _ _
    · exact ih _ _
  | sys c k ih => simp only [Sem.bind, Sem.run]; exact ih _ _
  | program k ih => simp only [Sem.bind, Sem.run]; exact ih _ _
  | mark m k ih => simp only [Sem.bind, Sem.run]; exact ih _
  | halt h => rfl
theorem bind_ok {α β : Type} {P : Program} {m : Sem α} {f : α → Sem β} {w w' : World} {a : α} (h : m.run P w = .ok a w') :
    (m >>= f).run P w = (f a).run P w' := by rw [bind_run, h]
theorem run_pure {α : Type} (P : Program) (a : α) (w : World) : (pure a : Sem α).run P w = .ok a w := rfl

section
variable {P : Program} {T : Tab}
theorem run_underlying {t : Nat} {d : TypeDesc} (h : P.underlying t = some d) (w : World) : (underlying t).run P w = .ok d w := by
  show (match P.underlying t with | some d => (pure d : Sem TypeDesc) | none => _).run P w = _
  rw [h]; rfl
theorem run_typeInfo {t : Nat} {d : TypeInfo} (h : P.info? t = some d) (w : World) : (typeInfo t).run P w = .ok d w := by
  show (match P.info? t with | some d => (pure d : Sem TypeInfo) | none => _).run P w = _
  rw [h]; rfl
theorem run_sizeOf {t : Nat} {i : TInfo} (h : TyOk P t i) (w : World) : (sizeOf t).run P w = .ok i.sh.length w := by
  obtain ⟨ti, h1, h2, _⟩ := h.info
  unfold sizeOf
  rw [bind_ok (run_typeInfo h1 w), h2]; rfl
theorem run_zeroValue {t : Nat} {i : TInfo} (h : TyOk P t i) (w : World) : (zeroValue t).run P w = .ok i.zero w := by
  obtain ⟨ti, h1, _, _, h4⟩ := h.info
  unfold zeroValue
  rw [bind_ok (run_typeInfo h1 w), h4]; rfl
def TInfo.isAgg (i : TInfo) : Bool :=
  match i.kind with
  | .struct _ => true
  | .arr _ _ => true
  | _ => false
theorem run_isAgg {t : Nat} {i : TInfo} (h : TyOk P t i) (w : World) : (isAgg t).run P w = .ok i.isAgg w := by
  unfold isAgg TInfo.isAgg
  have hu := h.und
  cases hk : i.kind <;> simp only [hk, undOk] at hu
  case struct fs => obtain ⟨fl, hu, _⟩ := hu; rw [bind_ok (run_underlying hu w)]; rfl
  case ptr => obtain ⟨e, hu⟩ := hu; rw [bind_ok (run_underlying hu w)]; rfl
  case func => obtain ⟨a, b, c, hu⟩ := hu; rw [bind_ok (run_underlying hu w)]; rfl
  case iface => obtain ⟨m, hu⟩ := hu; rw [bind_ok (run_underlying hu w)]; rfl
  all_goals (rw [bind_ok (run_underlying hu w)]; rfl)
theorem ty_agg {i : TInfo} (h : i.isAgg = true) : i.ty = .agg i.sh := by
  unfold TInfo.isAgg at h; unfold TInfo.ty
  split at h <;> simp_all
theorem ty_cell {t : Nat} {i : TInfo} (ok : TyOk P t i) (h : i.isAgg = false) : ∃ s, i.sh = [s] ∧ i.ty = .cell s ∧ i.zero = s.zero := by
  have := ok.one
  unfold TInfo.isAgg at h; unfold TInfo.ty TInfo.zero
  cases hk : i.kind <;> simp only [hk] at this h ⊢ <;> first
    | (obtain ⟨s, hs⟩ := this; exact ⟨s, hs, by simp [hs], by simp [hs]⟩)
    | simp at h
theorem HT.vals_length : ∀ (l : List Sh) (x : HT l), (HT.vals l x).length = l.length
  | [], _ => rfl
  | [_], _ => rfl
  | _ :: b :: r, x => by simp [HT.vals, HT.vals_length (b :: r) x.2]
/-! loads -/
theorem run_load {w : World} {a : Addr} {v : Value} (h : w.cell? a = some v) : (load a).run P w = .ok v w := by
  unfold load; simp only [Sem.run, h]
theorem Addr.add_add (a : Addr) (i j : Nat) : (a.add i).add j = a.add (i + j) := by
  unfold Addr.add
  by_cases hi : i = 0
  · subst hi; simp
  · by_cases hj : j = 0
    · subst hj; simp [hi]
    · simp [hi, hj, Nat.add_assoc]
theorem run_loadCellsFrom {w : World} {a : Addr} : ∀ (vs : List Value) (i : Nat) (acc : Array Value), cellsAt w a i vs →
    (loadCellsFrom a i vs.length acc).run P w = .ok (acc ++ vs.toArray) w
  | [], _, acc, _ => by simp [loadCellsFrom]
  | [v], i, acc, h => by
    show (loadCellsFrom a i (0 + 1) acc).run P w = _
    unfold loadCellsFrom
    rw [bind_ok (run_load h)]
    simp [loadCellsFrom]
  | v :: u :: r, i, acc, h => by
    show (loadCellsFrom a i ((u :: r).length + 1) acc).run P w = _
    unfold loadCellsFrom
    rw [bind_ok (run_load h.1), run_loadCellsFrom (u :: r) (i + 1) (acc.push v) h.2]
    congr 1
    apply Array.ext'
    simp
theorem run_loadCells {w : World} {a : Addr} {vs : List Value} {n : Nat} (hn : vs.length = n) (h : cellsAt w a 0 vs) : (loadCells a n).run P w = .ok vs.toArray w := by
  unfold loadCells
  rw [← hn, run_loadCellsFrom vs 0 #[] h]; simp
theorem run_loadVar {w : World} {t : Nat} {a : Addr} {i : TInfo} (ok : TyOk P t i) (x : i.ty.T) (h : cellsAt w a 0 (i.ty.vals x)) : (loadVar t a).run P w = .ok (i.ty.v x) w := by
  unfold loadVar
  rw [bind_ok (run_isAgg ok w)]
  cases ha : i.isAgg
  · obtain ⟨s, hs, ht, _⟩ := ty_cell ok ha
    simp only [Bool.false_eq_true, if_false]
    generalize hty : i.ty = ty at x h
    rw [ht] at hty; subst hty
    exact run_load (by simpa [Ty.vals, Ty.v, cellsAt, Addr.add] using h)
  · have ht := ty_agg ha
    simp only [if_true]
    rw [bind_ok (run_sizeOf ok w)]
    generalize hty : i.ty = ty at x h
    rw [ht] at hty; subst hty
    rw [bind_ok (run_loadCells (HT.vals_length _ _) h)]; rfl

/-! stores -/
theorem run_store {w : World} {a : Addr} {u v : Value} (h : w.cell? a = some u) (hf : w.frozen? a = false) (h1 : one v = true) : (store a v).run P w = .ok () (w.setCell a v) := by
  unfold store
  cases v <;> simp only [Sem.run, h, hf, one] at * <;> first | rfl | (cases h1; done)
theorem Addr.add_inj {a : Addr} {i j : Nat} (h : a.add i = a.add j) : i = j := by
  unfold Addr.add at h
  by_cases hi : i = 0
  · by_cases hj : j = 0
    · omega
    · simp [hi, hj] at h
      have := congrArg Addr.off h
      simp at this; omega
  · by_cases hj : j = 0
    · simp [hi, hj] at h
      have := congrArg Addr.off h
      simp at this; omega
    · simp [hi, hj] at h; omega
theorem storable_keep {w : World} {a : Addr} (u : Value) (j : Nat) : ∀ (vs : List Value) (i : Nat), j < i → storable w a i vs → storable (w.setCell (a.add j) u) a i vs
  | [], _, _, _ => trivial
  | [_], i, hj, h => by
    have hne : a.add j ≠ a.add i := fun e => by have := Addr.add_inj e; omega
    simp only [storable] at *
    rw [World.cell?_setCell_other _ _ _ _ hne, World.frozen?_setCell]; exact h
  | _ :: u' :: r, i, hj, h => by
    have hne : a.add j ≠ a.add i := fun e => by have := Addr.add_inj e; omega
    simp only [storable] at *
    rw [World.cell?_setCell_other _ _ _ _ hne, World.frozen?_setCell]
    exact ⟨h.1, storable_keep u j (u' :: r) (i + 1) (by omega) h.2⟩
theorem run_storeCells {a : Addr} : ∀ (vs : List Value) (w : World) (i : Nat), storable w a i vs → vs.all one = true → (storeCells a vs i).run P w = .ok () (storeAll w a i vs)
  | [], _, _, _, _ => rfl
  | [v], w, i, h, h1 => by
    unfold storeCells
    simp only [storable] at h
    obtain ⟨⟨u, hu⟩, hf⟩ := h
    rw [bind_ok (run_store hu hf (by simpa using h1))]
    rfl
  | v :: u' :: r, w, i, h, h1 => by
    unfold storeCells
    simp only [storable] at h
    obtain ⟨⟨⟨u, hu⟩, hf⟩, h⟩ := h
    simp only [List.all_cons, Bool.and_eq_true] at h1
    rw [bind_ok (run_store hu hf h1.1)]
    exact run_storeCells (u' :: r) _ (i + 1) (storable_keep v i _ _ (by omega) h) (by simp [h1.2])
theorem run_storeVar {w : World} {t : Nat} {a : Addr} {i : TInfo} {v : Value} (ok : TyOk P t i) (hn : v.cells.size = i.sh.length) (h : storable w a 0 v.cells.toList) (h1 : v.cells.toList.all one = true) :
    (storeVar t a v).run P w = .ok () (storeAll w a 0 v.cells.toList) := by
  unfold storeVar
  rw [bind_ok (run_sizeOf ok w)]
  simp only [hn, ne_eq, not_true_eq_false, if_false]
  exact run_storeCells _ _ _ h h1

/-! frames -/
structure Rep (N : Nat) (pend : Nat → Prop) (E : Env) (a : Act) : Prop where
  defers : a.defers = []
  size : a.tmps.size = N
  at_ : ∀ s v, get E s = some v → s < 1000000 → ¬ pend s → a.tmps[s]? = some v
theorem get_cons_eq (s : Nat) (v : Value) (E : Env) : get ((s, v) :: E) s = some v := by simp [get, Nat.beq_refl]
theorem get_cons_ne {s t : Nat} (v : Value) (E : Env) (h : s ≠ t) : get ((s, v) :: E) t = get E t := by
  have : Nat.beq s t = false := by
    cases hb : Nat.beq s t
    · rfl
    · exact absurd (Nat.eq_of_beq_eq_true hb) h
  simp [get, this]
theorem Rep.put {N : Nat} {pend : Nat → Prop} {E : Env} {a : Act} (h : Rep N pend E a) {d : Option Tmp} (hd : ∀ s, d = some s → s < N) (v : Value) : Rep N pend (putE d v E) (a.put d v) := by
  cases d with
  | none => exact h
  | some d =>
    have hlt := hd d rfl
    refine ⟨h.defers, by simp [Act.put, h.size], fun s u hs hl hp => ?_⟩
    simp only [putE] at hs
    simp only [Act.put]
    by_cases e : d = s
    · subst e
      rw [get_cons_eq] at hs
      injection hs with hs
      subst hs
      simp [h.size, hlt]
    · rw [get_cons_ne _ _ e] at hs
      rw [Array.getElem?_setIfInBounds_ne e]
      exact h.at_ s u hs hl hp
/-- a slot's value, written otherwise. -/
theorem Rep.same {N : Nat} {pend : Nat → Prop} {E : Env} {a : Act} (h : Rep N pend E a) {s : Nat} {v u : Value} (hs : get E s = some v) (e : v = u) : Rep N pend ((s, u) :: E) a := by
  subst e
  refine ⟨h.defers, h.size, fun t x ht hl hp => ?_⟩
  by_cases e : s = t
  · subst e; rw [get_cons_eq] at ht; exact h.at_ _ _ (by rw [hs]; exact ht) hl hp
  · rw [get_cons_ne _ _ e] at ht; exact h.at_ _ _ ht hl hp
theorem Rep.hint {N : Nat} {pend : Nat → Prop} {E : Env} {a : Act} (h : Rep N pend E a) (s : Nat) (v : Value) : Rep N pend ((Vc.hint s, v) :: E) a := by
  refine ⟨h.defers, h.size, fun t x ht hl hp => ?_⟩
  have : Vc.hint s ≠ t := by unfold Vc.hint; omega
  rw [get_cons_ne _ _ this] at ht
  exact h.at_ _ _ ht hl hp
theorem getD_of {a : Array Value} {s : Nat} {v : Value} (h : a[s]? = some v) : a.getD s undef = v := by
  simp [Array.getD_eq_getD_getElem?, h]
theorem Rep.opd {N : Nat} {pend : Nat → Prop} {E : Env} {a : Act} (h : Rep N pend E a) {x : Operand} {v : Value} (hx : opd E x = some v) (hp : ∀ s, x = .tmp s → ¬ pend s) : a.eval x = v := by
  cases x with
  | tmp s =>
    simp only [Vc.opd] at hx
    split at hx
    · rename_i hb
      exact getD_of (h.at_ s v hx (by rw [Nat.blt_eq] at hb; exact hb) (hp s rfl))
    · cases hx
  | const u => simpa [Vc.opd, Act.eval] using hx
  | global g => simpa [Vc.opd, Act.eval] using hx
  | func f => simpa [Vc.opd, Act.eval] using hx
theorem Rep.opds {N : Nat} {pend : Nat → Prop} {E : Env} {a : Act} (h : Rep N pend E a) : ∀ (l : List Operand) (vs : List Value), Vc.opds E l = some vs → (∀ s, Operand.tmp s ∈ l → ¬ pend s) → l.map a.eval = vs
  | [], vs, hx, _ => by simpa [Vc.opds] using hx
  | x :: r, vs, hx, hp => by
    simp only [Vc.opds] at hx
    cases h1 : Vc.opd E x with
    | none => simp [h1] at hx
    | some v =>
      cases h2 : Vc.opds E r with
      | none => simp [h1, h2] at hx
      | some l =>
        simp only [h1, h2, Option.some.injEq] at hx
        subst hx
        rw [List.map_cons, h.opd h1 (fun s e => hp s (by simp [e])), h.opds r l h2 (fun s e => hp s (by simp [e]))]
theorem Rep.parts {N : Nat} {pend : Nat → Prop} {E : Env} {a : Act} (h : Rep N pend E a) : ∀ (l : List (Nat × Operand)) (vs : List (Nat × Value)), Vc.parts E l = some vs → (∀ s, Operand.tmp s ∈ l.map (·.2) → ¬ pend s) → l.map (fun p => (p.1, a.eval p.2)) = vs
  | [], vs, hx, _ => by simpa [Vc.parts] using hx
  | (i, x) :: r, vs, hx, hp => by
    simp only [Vc.parts] at hx
    cases h1 : Vc.opd E x with
    | none => simp [h1] at hx
    | some v =>
      cases h2 : Vc.parts E r with
      | none => simp [h1, h2] at hx
      | some l =>
        simp only [h1, h2, Option.some.injEq] at hx
        subst hx
        rw [List.map_cons, h.opd h1 (fun s e => hp s (by simp [e])), h.parts r l h2 (fun s e => hp s (by simp at e ⊢; exact Or.inr e))]
end
end Go.Vc
/- The verification condition is sound: the operations that only look. -/
namespace Go.Vc
open Go
section
variable {P : Program} {T : Tab}
theorem run_v {m : Sem Value} {w w' : World} {v : Value} (h : m.run P w = .ok v w') : (do pure (Next.value (← m)) : Sem Next).run P w = .ok (.value v) w' := by
  rw [bind_ok h]; rfl
theorem kind_eq {k k' : IntKind} {a b : Int} (h : sameKind (.int k a) (.int k' b) = true) : k = k' := by
  simp only [sameKind] at h
  split at h
  · assumption
  · cases h
theorem run_eqGuard {op : BinOp} {t : TypeId} {x y : Operand} {a b : Value} (h : ∀ cs ds, ¬ (a = .agg cs ∧ b = .agg ds)) (h' : ¬ (a = .nilIface ∧ b = .nilIface)) (w : World) : (eqGuard op t x y a b).run P w = .ok () w := by
  unfold eqGuard
  cases op <;> simp only [Bool.not_true, Bool.not_false, if_true, if_false, Bool.false_eq_true] <;> first
    | rfl
    | (cases a <;> cases b <;> first | rfl | (exact absurd ⟨rfl, rfl⟩ h') | (exact absurd ⟨rfl, rfl⟩ (h _ _)))
theorem run_bin {op : BinOp} {t : TypeId} {x y v : Value} (hs : sameKind x y = true) (h : bin op x y = some v) (w : World) : (binOp op t x y).run P w = .ok v w := by
  cases x <;> cases y <;> simp only [sameKind, Bool.false_eq_true] at hs
  case int.int k a k' b =>
    have hk : k = k' := by
      split at hs
      · assumption
      · cases hs
    subst hk
    cases op <;> simp only [bin, Option.some.injEq, reduceCtorEq] at h <;> subst h <;> simp only [binOp, ne_eq, not_true_eq_false, if_false, Op.intArith, Op.intCmp] <;> first
      | rfl
      | (rw [run_pure]; congr 2)
  case string.string a b =>
    cases op <;> simp only [bin, Option.some.injEq, reduceCtorEq] at h <;> subst h <;> simp only [binOp, Op.stringOp] <;> rfl
theorem run_equal {t : Nat} {i : TInfo} (ok : TyOk P t i) {x y : Value} {r : Bool} (h : eqv i.kind x y = some r) (w : World) : (Op.equal t x y).run P w = .ok r w := by
  have hu := ok.und
  unfold Op.equal Op.maxDepth
  rw [show (10000 : Nat) = 9999 + 1 from rfl]
  unfold Op.equalIn
  cases hk : i.kind <;> simp only [hk, undOk] at hu <;> rw [hk] at h <;> (try (simp only [eqv, reduceCtorEq] at h; done))
  case bool =>
    cases x <;> cases y <;> simp only [eqv, Option.some.injEq, reduceCtorEq] at h
    subst h
    rw [bind_ok (run_underlying hu w)]; rfl
  case ptr =>
    obtain ⟨e, hu⟩ := hu
    rw [bind_ok (run_underlying hu w)]
    cases x <;> cases y <;> try (simp only [eqv, reduceCtorEq] at h; done)
    rename_i p q
    cases p <;> cases q <;> simp only [eqv, Option.isNone, Option.some.injEq, reduceCtorEq] at h <;> subst h <;> rfl
  case slice e =>
    rw [bind_ok (run_underlying hu w)]
    cases x <;> cases y <;> try (simp only [eqv, reduceCtorEq] at h; done)
    rename_i p _ _ q _ _
    cases p <;> cases q <;> simp only [eqv, Option.isNone, Option.some.injEq, reduceCtorEq] at h <;> subst h <;> rfl
  case map k e =>
    rw [bind_ok (run_underlying hu w)]
    cases x <;> cases y <;> try (simp only [eqv, reduceCtorEq] at h; done)
    rename_i p q
    cases p <;> cases q <;> simp only [eqv, Option.isNone, Option.some.injEq, reduceCtorEq] at h <;> subst h <;> rfl
theorem eqv_shape {kd : Kind} {x y : Value} {r : Bool} (h : eqv kd x y = some r) : (∀ cs ds, ¬ (x = .agg cs ∧ y = .agg ds)) ∧ ¬ (x = .nilIface ∧ y = .nilIface) := by
  constructor
  · rintro cs ds ⟨rfl, rfl⟩; cases kd <;> simp [eqv] at h
  · rintro ⟨rfl, rfl⟩; cases kd <;> simp [eqv] at h
theorem binOp_eql {t : Nat} {i : TInfo} (ok : TyOk P t i) {x y : Value} {r : Bool} (h : eqv i.kind x y = some r) (w : World) : (binOp .eql t x y).run P w = .ok (.bool r) w := by
  have he := run_equal ok h w
  have : binOp .eql t x y = (do pure (.bool (← Op.equal t x y))) := by
    cases hk : i.kind <;> rw [hk] at h <;> cases x <;> cases y <;> simp only [eqv, reduceCtorEq] at h <;> rfl
  rw [this, bind_ok he]; rfl
theorem binOp_neq {t : Nat} {i : TInfo} (ok : TyOk P t i) {x y : Value} {r : Bool} (h : eqv i.kind x y = some r) (w : World) : (binOp .neq t x y).run P w = .ok (.bool (!r)) w := by
  have he := run_equal ok h w
  have : binOp .neq t x y = (do pure (.bool (!(← Op.equal t x y)))) := by
    cases hk : i.kind <;> rw [hk] at h <;> cases x <;> cases y <;> simp only [eqv, reduceCtorEq] at h <;> rfl
  rw [this, bind_ok he]; rfl
theorem run_fieldAt {s : Nat} {fs : List (Nat × Nat)} {sh : List Sh} {by_ : Nat} (ok : TyOk P s ⟨.struct fs, sh, by_⟩) {f off sz : Nat} (hf : fs[f]? = some (off, sz + 1)) (ad : Addr) (w : World) :
    (Instr.fieldAt s (.pointer (some ad)) f).run P w = .ok (.pointer (some (ad.add off))) w := by
  obtain ⟨fl, hu, hm, hin⟩ := ok.und
  unfold Instr.fieldAt
  rw [bind_ok (run_underlying hu w)]
  rw [← hm, List.getElem?_map] at hf
  cases hq : fl.toList[f]? with
  | none => simp [hq] at hf
  | some fd =>
    simp only [hq, Option.map_some, Option.some.injEq, Prod.mk.injEq] at hf
    have hq' : fl[f]? = some fd := by simpa using hq
    simp only [hq']
    rw [bind_ok (show (Instr.sureAddr (.pointer (some ad))).run P w = .ok ad w from rfl)]
    have hfs : (sizeOf fd.type).run P w = .ok (P.cellsOf fd.type) w := by
      have hs := hin fd (List.mem_of_getElem? hq)
      obtain ⟨ti, hti⟩ := Option.isSome_iff_exists.1 hs
      unfold sizeOf Program.cellsOf
      rw [bind_ok (run_typeInfo hti w), hti]; rfl
    have : (fieldPlace ad fd).run P w = .ok (ad.add off) w := by
      unfold fieldPlace
      rw [bind_ok hfs, hf.2, ← hf.1]; rfl
    rw [bind_ok this]; rfl
theorem run_indexAt {t e : Nat} {sh : List Sh} {by_ : Nat} {ie : TInfo} (ok : TyOk P t ⟨.slice e, sh, by_⟩) (oke : TyOk P e ie) {ad : Addr} {n c : Nat} {k : IntKind} {i : Int} (h0 : 0 ≤ i) (h1 : i < n) (w : World) :
    (Instr.indexAt t (.slice (some ad) n c) (.int k i)).run P w = .ok (.pointer (some (ad.add (i.toNat * ie.sh.length)))) w := by
  have hu : P.underlying t = some (.slice e) := ok.und
  unfold Instr.indexAt
  rw [bind_ok (show (asIntOf (.int k i)).run P w = .ok (k, i) w from rfl)]
  simp only []
  rw [bind_ok (run_underlying hu w)]
  simp only []
  rw [bind_ok (run_pure P (some ad, n, e) w), bind_ok (run_underlying hu w)]
  simp only [h0, h1, and_self, if_true]
  rw [bind_ok (run_sizeOf oke w)]; rfl
/-! maps -/
theorem run_getObj {w : World} {r : Nat} {o : Obj} (h : w.heap[r]? = some o) (hc : ∀ c e f, o ≠ .cells c e f) : (getObj r).run P w = .ok o w := by
  unfold getObj
  cases o <;> first
    | (exact absurd rfl (hc _ _ _))
    | simp only [Sem.run, h]
theorem run_getMap {w : World} {r : Nat} {es : Array MapEntry} {clock : Nat} (h : w.heap[r]? = some (.map es clock)) : (getObj r).run P w = .ok (.map es clock) w :=
  run_getObj h (by simp)
def findI : List En → Int → Nat → Option (Nat × Value)
  | [], _, _ => none
  | e :: r, k, i => if k = e.k then some (i, e.v) else findI r k (i + 1)
theorem findI_val : ∀ (es : List En) (k : Int) (i : Nat), (findI es k i).map (·.2) = findE es k
  | [], _, _ => rfl
  | e :: r, k, i => by
    unfold findI findE
    split
    · rfl
    · exact findI_val r k (i + 1)
theorem findNow_eq (q kd : IntKind) (k : Int) : ∀ (es : List En) (i : Nat), Instr.findNow (.int q) (.int kd k) (es.map (En.e kd)) i = some (findI es k i)
  | [], _ => rfl
  | e :: r, i => by
    simp only [List.map_cons, Instr.findNow, findI, En.e, Instr.sameNow, if_true]
    by_cases h : k = e.k
    · simp [h]
    · have : (k == e.k) = false := by simpa using h
      simp only [this, h, if_false]
      exact findNow_eq q kd k r (i + 1)
theorem run_findKey {kt : Nat} {q kd : IntKind} (hu : P.underlying kt = some (.int q)) (k : Int) (es : List En) (w : World) :
    (Instr.findKey kt (.int kd k) (es.map (En.e kd))).run P w = .ok (findI es k 0) w := by
  unfold Instr.findKey
  rw [bind_ok (run_underlying hu w), findNow_eq]; rfl
theorem run_checkKey {kt : Nat} {q kd : IntKind} (hu : P.underlying kt = some (.int q)) (b : Bool) (k : Int) (w : World) :
    (Instr.checkKey b 10000 kt (.int kd k)).run P w = .ok () w := by
  rw [show (10000 : Nat) = 9999 + 1 from rfl]
  unfold Instr.checkKey
  rw [bind_ok (run_underlying hu w)]; rfl
theorem run_lookup_none {t kt e : Nat} {sh shk : List Sh} {b bk : Nat} {q kd : IntKind} {ie : TInfo} (ok : TyOk P t ⟨.map kt e, sh, b⟩) (okk : TyOk P kt ⟨.int q, shk, bk⟩) (oke : TyOk P e ie) (k : Int) (c : Bool) (w : World) :
    (Instr.lookup t (.map none) (.int kd k) c).run P w = .ok (match c with | true => .tuple #[ie.zero, .bool false] | false => ie.zero) w := by
  have hu : P.underlying t = some (.map kt e) := ok.und
  have huk : P.underlying kt = some (.int q) := okk.und
  unfold Instr.lookup
  rw [bind_ok (run_underlying hu w)]
  simp only []
  rw [bind_ok (run_pure P (#[] : Array MapEntry) w), bind_ok (run_checkKey huk _ k w)]
  have hf := run_findKey (kd := kd) huk k [] w
  simp only [List.map_nil] at hf
  rw [show (#[] : Array MapEntry).toList = [] from rfl, bind_ok hf]
  simp only [findI]
  rw [bind_ok (run_zeroValue oke w)]
  cases c <;> rfl
theorem run_lookup {t kt e : Nat} {sh shk : List Sh} {b bk : Nat} {q kd : IntKind} {ie : TInfo} (ok : TyOk P t ⟨.map kt e, sh, b⟩) (okk : TyOk P kt ⟨.int q, shk, bk⟩) (oke : TyOk P e ie) {r : Nat} {es : List En} {clock : Nat} {w : World} (hm : mapAt w r kd es clock) (k : Int) (c : Bool) :
    (Instr.lookup t (.map (some r)) (.int kd k) c).run P w = .ok (match findE es k with
      | some v => (match c with | true => .tuple #[v, .bool true] | false => v)
      | none => (match c with | true => .tuple #[ie.zero, .bool false] | false => ie.zero)) w := by
  have hu : P.underlying t = some (.map kt e) := ok.und
  have huk : P.underlying kt = some (.int q) := okk.und
  unfold Instr.lookup
  rw [bind_ok (run_underlying hu w)]
  simp only []
  rw [bind_ok (run_getMap hm)]
  simp only []
  rw [bind_ok (run_pure P (entries kd es) w), bind_ok (run_checkKey huk _ k w)]
  have hf := run_findKey (kd := kd) huk k es w
  rw [show (entries kd es).toList = es.map (En.e kd) by simp [entries], bind_ok hf]
  have hv := findI_val es k 0
  cases hi : findI es k 0 with
  | none =>
    rw [hi] at hv
    simp only [Option.map_none] at hv
    rw [← hv]
    simp only []
    rw [bind_ok (run_zeroValue oke w)]
    cases c <;> rfl
  | some p =>
    rw [hi] at hv
    simp only [Option.map_some] at hv
    rw [← hv]
    cases c <;> rfl
/-! slices -/
theorem run_sliceBound {k : IntKind} {i : Int} {y : Nat} (c : BoundsCode) (h0 : 0 ≤ i) (h1 : i ≤ y) (w : World) : (Instr.sliceBound (.int k i) y c).run P w = .ok i.toNat w := by
  unfold Instr.sliceBound
  rw [bind_ok (show (asIntOf (.int k i)).run P w = .ok (k, i) w from rfl)]
  simp only [h0, h1, and_self, if_true]; rfl
theorem run_slice {t e : Nat} {sh : List Sh} {by_ : Nat} {ie : TInfo} (ok : TyOk P t ⟨.slice e, sh, by_⟩) (oke : TyOk P e ie) {a : Option Addr} {n c : Nat} {lo hi : Option Value} {l h : Int} (hl : bound 0 lo = some l) (hh : bound n hi = some h)
    (h0 : 0 ≤ l) (h1 : l ≤ h) (h2 : h ≤ c) (w : World) :
    (Instr.sliceAt t (.slice a n c) lo hi none).run P w = .ok (.slice (sub? a l.toNat c ie.sh.length) (h.toNat - l.toNat) (c - l.toNat)) w := by
  have hu : P.underlying t = some (.slice e) := ok.und
  unfold Instr.sliceAt
  rw [bind_ok (run_underlying hu w)]
  simp only []
  unfold Instr.slice
  rw [bind_ok (run_underlying hu w)]
  simp only []
  have hhn : ((h.toNat : Nat) : Int) = h := by omega
  have hb : (Instr.sliceBounds true n c lo hi none).run P w = .ok (l.toNat, h.toNat, c) w := by
    unfold Instr.sliceBounds
    simp only []
    rw [bind_ok (run_pure P c w)]
    have s2 : ∀ (hv : Option Value), bound n hv = some h → (match hv, (none : Option Value) with
        | some v, some _ => Instr.sliceBound v c .slice3B
        | some v, none => Instr.sliceBound v c (if true then .sliceAcap else .sliceAlen)
        | none, none => pure n
        | none, some _ => stuck "Slice: max without high" : Sem Nat).run P w = .ok h.toNat w := by
      intro hv hhv
      cases hv with
      | none => simp only [bound, Option.some.injEq] at hhv; subst hhv; rfl
      | some v =>
        cases v <;> simp only [bound, Option.some.injEq, reduceCtorEq] at hhv
        subst hhv
        exact run_sliceBound _ (by omega) h2 w
    have s3 : ∀ (lv : Option Value), bound 0 lv = some l → (match lv with
        | some v => Instr.sliceBound v h.toNat (if (none : Option Value).isSome then .slice3C else .sliceB)
        | none => pure 0 : Sem Nat).run P w = .ok l.toNat w := by
      intro lv hlv
      cases lv with
      | none => simp only [bound, Option.some.injEq] at hlv; subst hlv; rfl
      | some v =>
        cases v <;> simp only [bound, Option.some.injEq, reduceCtorEq] at hlv
        subst hlv
        exact run_sliceBound _ h0 (by omega) w
    cases hi with
    | none =>
      have := s2 none hh
      simp only [] at this ⊢
      rw [bind_ok this]
      cases lo with
      | none => have := s3 none hl; simp only [] at this ⊢; rw [bind_ok this]; rfl
      | some v => have := s3 (some v) hl; simp only [] at this ⊢; rw [bind_ok this]; rfl
    | some u =>
      have := s2 (some u) hh
      simp only [] at this ⊢
      rw [bind_ok this]
      cases lo with
      | none => have := s3 none hl; simp only [] at this ⊢; rw [bind_ok this]; rfl
      | some v => have := s3 (some v) hl; simp only [] at this ⊢; rw [bind_ok this]; rfl
  rw [bind_ok hb]
  simp only []
  rw [bind_ok (run_sizeOf oke w)]
  rfl
theorem run_index {t e n : Nat} {sh : List Sh} {by_ : Nat} {ie : TInfo} {s : Sh} (ok : TyOk P t ⟨.arr n e, sh, by_⟩) (oke : TyOk P e ie) (hs : ie.ty = .cell s) {cs : Array Value} {k : IntKind} {i : Int} (h0 : 0 ≤ i) (h1 : i < n) (x : s.T)
    (hx : cs[i.toNat * ie.sh.length]? = some (s.v x)) (w : World) : (Instr.index t (.agg cs) (.int k i)).run P w = .ok (s.v x) w := by
  have hu : P.underlying t = some (.array n e) := ok.und
  unfold Instr.index
  rw [bind_ok (show (asIntOf (.int k i)).run P w = .ok (k, i) w from rfl)]
  simp only []
  rw [bind_ok (run_underlying hu w)]
  simp only [h0, h1, and_self, if_true]
  rw [bind_ok (run_sizeOf oke w)]
  have ha : ie.isAgg = false := by
    cases hq : ie.isAgg
    · rfl
    · rw [ty_agg hq] at hs; cases hs
  unfold part
  rw [bind_ok (run_isAgg oke w), ha]
  simp only [Bool.false_eq_true, if_false, hx]; rfl
/-! literals -/
theorem run_build_struct {t : Nat} {fs : List (Nat × Nat)} {sh : List Sh} {by_ : Nat} (ok : TyOk P t ⟨.struct fs, sh, by_⟩) {l : List (Nat × Value)} {cs : Array Value} (h : fillL (fun i => fs[i]?) (sh.map Sh.zero).toArray l = some cs) (w : World) :
    (Instr.build t l.toArray).run P w = .ok (.agg cs) w := by
  obtain ⟨fl, hu, hm, hin⟩ := ok.und
  unfold Instr.build
  rw [bind_ok (run_zeroValue ok w), bind_ok (run_underlying hu w)]
  simp only []
  have hmap : (fl.mapM fun f => do pure (f.offset, ← sizeOf f.type) : Sem (Array (Nat × Nat))).run P w = .ok fs.toArray w := by
    rw [Array.mapM_eq_mapM_toList]
    have : ∀ (l : List Field), (∀ f ∈ l, (P.info? f.type).isSome = true) → (l.mapM (fun f => do pure (f.offset, ← sizeOf f.type) : Field → Sem (Nat × Nat))).run P w = .ok (l.map fun f => (f.offset, P.cellsOf f.type)) w := by
      intro l hl
      induction l with
      | nil => rfl
      | cons f r ih =>
        rw [List.mapM_cons]
        have hfs : (sizeOf f.type).run P w = .ok (P.cellsOf f.type) w := by
          have hs := hl f (by simp)
          obtain ⟨ti, hti⟩ := Option.isSome_iff_exists.1 hs
          unfold sizeOf Program.cellsOf
          rw [bind_ok (run_typeInfo hti w), hti]; rfl
        have h1 : (do pure (f.offset, ← sizeOf f.type) : Sem (Nat × Nat)).run P w = .ok (f.offset, P.cellsOf f.type) w := by
          rw [bind_ok hfs]; rfl
        rw [bind_ok h1, bind_ok (ih fun g hg => hl g (by simp [hg]))]; rfl
    show (List.toArray <$> _ : Sem _).run P w = _
    rw [map_eq_pure_bind, bind_ok (this fl.toList hin), hm]; rfl
  rw [bind_ok hmap]
  have hz : (TInfo.zero ⟨.struct fs, sh, by_⟩).cells = (sh.map Sh.zero).toArray := rfl
  simp only [hz, List.getElem?_toArray]
  unfold fillL at h
  rw [h]; rfl
theorem run_build_arr {t n e : Nat} {sh : List Sh} {by_ : Nat} {ie : TInfo} (ok : TyOk P t ⟨.arr n e, sh, by_⟩) (oke : TyOk P e ie) {l : List (Nat × Value)} {cs : Array Value}
    (h : fillL (fun i => some (i * ie.sh.length, ie.sh.length)) (sh.map Sh.zero).toArray l = some cs) (w : World) : (Instr.build t l.toArray).run P w = .ok (.agg cs) w := by
  have hu : P.underlying t = some (.array n e) := ok.und
  unfold Instr.build
  rw [bind_ok (run_zeroValue ok w), bind_ok (run_underlying hu w)]
  simp only []
  rw [bind_ok (run_sizeOf oke w)]
  have hz : (TInfo.zero ⟨.arr n e, sh, by_⟩).cells = (sh.map Sh.zero).toArray := rfl
  simp only [hz]
  unfold fillL at h
  rw [h]; rfl
end
end Go.Vc
/- The verification condition is sound: the theorem on the operations that only look. -/
namespace Go.Vc
open Go
section
variable {P : Program} {T : Tab}
theorem onV_elim {o : Option Value} {k : Value → Prop} (h : onV o k) : ∃ v, o = some v ∧ k v := by
  cases o with
  | none => exact h.elim
  | some v => exact ⟨v, rfl, h⟩
theorem onP_elim {o : Option Addr} {k : Addr → Prop} (h : onP o k) : ∃ v, o = some v ∧ k v := by
  cases o with
  | none => exact h.elim
  | some v => exact ⟨v, rfl, h⟩
theorem onO_elim {α : Type} {o : Option α} {k : α → Prop} (h : onO o k) : ∃ v, o = some v ∧ k v := by
  cases o with
  | none => exact h.elim
  | some v => exact ⟨v, rfl, h⟩
theorem run_bytesToString (a : Option Addr) (n c : Nat) (l : List UInt8) (hl : l.length = n) (w : World) (h : ∀ ad, a = some ad → cellsAt w ad 0 (bytesOf l)) (h0 : a = none → l = []) :
    (Conv.bytesToString (.slice a n c)).run P w = .ok (.string ⟨l.toArray⟩) w := by
  cases a with
  | none => rw [h0 rfl]; rfl
  | some ad =>
    have hc := h ad rfl
    unfold Conv.bytesToString
    simp only []
    have hll : (bytesOf l).length = n := by simp [bytesOf, hl]
    rw [bind_ok (run_loadCells hll hc)]
    have key : ∀ (f : Value → ByteArray → Sem (ForInStep ByteArray)), (∀ (b : UInt8) (s : ByteArray), (f (.int .u8 b.toNat) s).run P w = .ok (ForInStep.yield (s.push b)) w) →
        ∀ (l : List UInt8) (acc : ByteArray), (forIn (m := Sem) (bytesOf l).toArray acc f).run P w = .ok ⟨acc.data ++ l.toArray⟩ w := by
      intro f hf l
      induction l with
      | nil => intro acc; simp [bytesOf]
      | cons b r ih =>
        intro acc
        have := ih (acc.push b)
        simp only [bytesOf, List.map_cons, List.forIn_toArray] at this ⊢
        rw [List.forIn_cons, bind_ok (hf b acc)]
        simp only []
        rw [this]
        congr 2
        apply Array.ext'
        simp [ByteArray.push]
    rw [bind_ok (key _ (fun b s => by simp only [Int.toNat_natCast, UInt8.ofNat_toNat]; rfl) l ByteArray.empty)]
    simp [ByteArray.empty, ByteArray.emptyWithCapacity]; rfl
section
variable {N : Nat} {pend : Nat → Prop} {E : Env} {a : Act} (hr : Rep N pend E a) {x y : Operand} (hx : ∀ s, x = .tmp s → ¬ pend s) (hy : ∀ s, y = .tmp s → ¬ pend s)
  {dst : Option Tmp} {t yt type : TypeId} {pos : String} {after : Array Edge} {guard : Option (Nat × Bool)}
include hr hx hy
theorem exec_bin {op : BinOp} {u v r : Value} (h1 : opd E x = some u) (h2 : opd E y = some v) (hs : sameKind u v = true) (hb : bin op u v = some r) (w : World) :
    (execOp a.eval ⟨dst, .binOp op t x y yt, type, pos, after, guard⟩).run P w = .ok (.value r) w := by
  simp only [execOp]
  rw [hr.opd h1 hx, hr.opd h2 hy]
  refine run_v ?_
  rw [bind_ok (run_eqGuard (by rintro cs ds ⟨rfl, rfl⟩; simp [sameKind] at hs) (by rintro ⟨rfl, rfl⟩; simp [sameKind] at hs) w)]
  exact run_bin hs hb w
theorem exec_eql (hT : TabOk P T) {u v : Value} {i : TInfo} {r : Bool} (h1 : opd E x = some u) (h2 : opd E y = some v) (ht : T.ty t = some i) (hb : eqv i.kind u v = some r) (w : World) :
    (execOp a.eval ⟨dst, .binOp .eql t x y yt, type, pos, after, guard⟩).run P w = .ok (.value (.bool r)) w := by
  simp only [execOp]
  rw [hr.opd h1 hx, hr.opd h2 hy]
  refine run_v ?_
  rw [bind_ok (run_eqGuard (eqv_shape hb).1 (eqv_shape hb).2 w)]
  exact binOp_eql (hT.ty _ _ ht) hb w
theorem exec_neq (hT : TabOk P T) {u v : Value} {i : TInfo} {r : Bool} (h1 : opd E x = some u) (h2 : opd E y = some v) (ht : T.ty t = some i) (hb : eqv i.kind u v = some r) (w : World) :
    (execOp a.eval ⟨dst, .binOp .neq t x y yt, type, pos, after, guard⟩).run P w = .ok (.value (.bool (!r))) w := by
  simp only [execOp]
  rw [hr.opd h1 hx, hr.opd h2 hy]
  refine run_v ?_
  rw [bind_ok (run_eqGuard (eqv_shape hb).1 (eqv_shape hb).2 w)]
  exact binOp_neq (hT.ty _ _ ht) hb w
theorem exec_div {op : BinOp} {k k' : IntKind} {i j : Int} {r : Value} (h1 : opd E x = some (.int k i)) (h2 : opd E y = some (.int k' j)) (hs : sameKind (.int k 0) (.int k' 0) = true) (hj : j ≠ 0)
    (ho : op = .rem ∧ r = .int k (i.tmod j) ∨ op = .quo ∧ r = .int k (k.wrap (i.tdiv j))) (w : World) :
    (execOp a.eval ⟨dst, .binOp op t x y yt, type, pos, after, guard⟩).run P w = .ok (.value r) w := by
  have hk := kind_eq hs
  subst hk
  simp only [execOp]
  rw [hr.opd h1 hx, hr.opd h2 hy]
  refine run_v ?_
  rw [bind_ok (run_eqGuard (by rintro cs ds ⟨h, _⟩; cases h) (by rintro ⟨h, _⟩; cases h) w)]
  rcases ho with ⟨rfl, rfl⟩ | ⟨rfl, rfl⟩ <;> simp only [binOp, ne_eq, not_true_eq_false, if_false, Op.intDiv, hj] <;> rfl
end
theorem vcS_sound {M : (World → Prop) → Prop} {S : World → Prop} (hT : TabOk P T) (hM : ∀ φ, M φ → ∀ w, S w → φ w) {N : Nat} {pend : Nat → Prop} {E : Env} {a : Act} (hr : Rep N pend E a) {o : Oper} {K : Env → Prop}
    (hp : ∀ s, Operand.tmp s ∈ o.op.operands.toList → ¬ pend s) (h : vcS M T o E K) :
    ∃ v, (∀ w, S w → (execOp a.eval o).run P w = .ok (.value v) w) ∧ K (putE o.dst v E) := by
  obtain ⟨dst, op, type, pos, after, guard⟩ := o
  cases op <;> simp only [vcS] at h <;> simp only [Op.operands] at hp <;> (try (exact h.elim))
  case move x =>
    obtain ⟨v, hv, hk⟩ := onV_elim h
    exact ⟨v, fun w _ => by simp only [execOp]; rw [hr.opd hv (fun s e => hp s (by simp [e]))]; rfl, hk⟩
  case assign x =>
    obtain ⟨v, hv, hk⟩ := onV_elim h
    exact ⟨v, fun w _ => by simp only [execOp]; rw [hr.opd hv (fun s e => hp s (by simp [e]))]; rfl, hk⟩
  case pick c x y =>
    split at h
    · rename_i b hc
      have ec := hr.opd hc (fun s e => hp s (by simp [e]))
      cases b
      · obtain ⟨v, hv, hk⟩ := onV_elim h
        exact ⟨v, fun w _ => by simp only [execOp]; rw [ec, hr.opd hv (fun s e => hp s (by simp [e]))]; rfl, hk⟩
      · obtain ⟨v, hv, hk⟩ := onV_elim h
        exact ⟨v, fun w _ => by simp only [execOp]; rw [ec, hr.opd hv (fun s e => hp s (by simp [e]))]; rfl, hk⟩
    · exact h.elim
  case load t x =>
    split at h
    · rename_i p hx
      obtain ⟨ad, rfl, h⟩ := onP_elim h
      split at h
      · rename_i i ht
        obtain ⟨y, hy, hk⟩ := h
        refine ⟨_, fun w hw => ?_, hk⟩
        simp only [execOp]
        rw [hr.opd hx (fun s e => hp s (by simp [e]))]
        refine run_v ?_
        unfold Instr.loadAt
        rw [bind_ok (show (Instr.sureAddr (.pointer (some ad))).run P w = .ok ad w from rfl)]
        exact run_loadVar (hT.ty _ _ ht) y (hM _ hy w hw)
      · exact h.elim
    · exact h.elim
  case nilCheck x =>
    split at h
    · rename_i p hx
      obtain ⟨ad, rfl, hk⟩ := onP_elim h
      exact ⟨_, fun w _ => by simp only [execOp]; rw [hr.opd hx (fun s e => hp s (by simp [e]))]; rfl, hk⟩
    · rename_i f fs cs hx
      exact ⟨_, fun w _ => by simp only [execOp]; rw [hr.opd hx (fun s e => hp s (by simp [e]))]; rfl, h⟩
    · exact h.elim
  case binOp op t x y yt =>
    have px : ∀ s, x = .tmp s → ¬ pend s := fun s e => hp s (by simp [e])
    have py : ∀ s, y = .tmp s → ¬ pend s := fun s e => hp s (by simp [e])
    clear hp
    cases op
    case rem =>
      simp only [] at h
      split at h
      · rename_i k i k' j h1 h2
        obtain ⟨hs, hj, hk⟩ := h
        exact ⟨_, fun w _ => exec_div hr px py h1 h2 hs hj (Or.inl ⟨rfl, rfl⟩) w, hk⟩
      · exact h.elim
    case quo =>
      simp only [] at h
      split at h
      · rename_i k i k' j h1 h2
        obtain ⟨hs, hj, hk⟩ := h
        exact ⟨_, fun w _ => exec_div hr px py h1 h2 hs hj (Or.inr ⟨rfl, rfl⟩) w, hk⟩
      · exact h.elim
    case eql =>
      simp only [] at h
      split at h
      · rename_i u v h1 h2
        split at h
        · rename_i hs
          obtain ⟨r, hb, hk⟩ := onV_elim h
          exact ⟨r, fun w _ => exec_bin hr px py h1 h2 hs hb w, hk⟩
        · split at h
          · rename_i i ht _
            split at h
            · rename_i r hb
              exact ⟨_, fun w _ => exec_eql hr px py hT h1 h2 ht hb w, h⟩
            · exact h.elim
          · rename_i e; cases e
          · exact h.elim
      · exact h.elim
    case neq =>
      simp only [] at h
      split at h
      · rename_i u v h1 h2
        split at h
        · rename_i hs
          obtain ⟨r, hb, hk⟩ := onV_elim h
          exact ⟨r, fun w _ => exec_bin hr px py h1 h2 hs hb w, hk⟩
        · split at h
          · rename_i e; cases e
          · rename_i i ht _
            split at h
            · rename_i r hb
              exact ⟨_, fun w _ => exec_neq hr px py hT h1 h2 ht hb w, h⟩
            · exact h.elim
          · exact h.elim
      · exact h.elim
    all_goals
      simp only [] at h
      split at h
      · rename_i u v h1 h2
        split at h
        · rename_i hs
          obtain ⟨r, hb, hk⟩ := onV_elim h
          exact ⟨r, fun w _ => exec_bin hr px py h1 h2 hs hb w, hk⟩
        · split at h
          · rename_i e; cases e
          · rename_i e; cases e
          · exact h.elim
      · exact h.elim
  case unOp op t x =>
    cases op <;> simp only [] at h <;> (try (exact h.elim))
    · split at h
      · rename_i k b hx
        refine ⟨_, fun w _ => ?_, h⟩
        simp only [execOp]
        rw [hr.opd hx (fun s e => hp s (by simp [e]))]
        exact run_v rfl
      · exact h.elim
    · split at h
      · rename_i b hx
        refine ⟨_, fun w _ => ?_, h⟩
        simp only [execOp]
        rw [hr.opd hx (fun s e => hp s (by simp [e]))]
        exact run_v rfl
      · exact h.elim
  case convert s d x =>
    split at h
    · rename_i k n k0 sh0 b0 k1 sh1 b1 hx hs hd
      refine ⟨_, fun w _ => ?_, h⟩
      simp only [execOp]
      rw [hr.opd hx (fun s e => hp s (by simp [e]))]
      refine run_v ?_
      have us : P.underlying s = some (.int k0) := (hT.ty _ _ hs).und
      have ud : P.underlying d = some (.int k1) := (hT.ty _ _ hd).und
      unfold convert
      rw [bind_ok (run_underlying us w), bind_ok (run_underlying ud w)]; rfl
    · rename_i ad n c e sh0 b0 sh1 b1 hx hs hd
      split at h
      · rename_i sh2 b2 he
        obtain ⟨l, hl, hc, h0, hk⟩ := h
        refine ⟨_, fun w hw => ?_, hk⟩
        simp only [execOp]
        rw [hr.opd hx (fun s e => hp s (by simp [e]))]
        refine run_v ?_
        have us : P.underlying s = some (.slice e) := (hT.ty _ _ hs).und
        have ud : P.underlying d = some .string := (hT.ty _ _ hd).und
        have ue : P.underlying e = some (.int .u8) := (hT.ty _ _ he).und
        unfold convert
        rw [bind_ok (run_underlying us w), bind_ok (run_underlying ud w)]
        cases ad with
        | none =>
          simp only []
          rw [bind_ok (run_underlying ue w)]
          exact run_bytesToString _ _ _ _ hl _ (fun ad e => hM _ (hc ad e) w hw) h0
        | some ad =>
          simp only []
          rw [bind_ok (run_underlying ue w)]
          exact run_bytesToString _ _ _ _ hl _ (fun ad e => hM _ (hc ad e) w hw) h0
      · exact h.elim
    · exact h.elim
  case makeFunc fn fs cs =>
    split at h
    · rename_i u v hu hv
      refine ⟨_, fun w _ => ?_, h⟩
      simp only [execOp]
      have e1 : fs.map a.eval = u.toArray := by
        rw [← hr.opds fs.toList _ hu (fun s e => hp s (by rw [Array.toList_append]; exact List.mem_append_left _ e))]; apply Array.ext'; simp
      have e2 : cs.map a.eval = v.toArray := by
        rw [← hr.opds cs.toList _ hv (fun s e => hp s (by rw [Array.toList_append]; exact List.mem_append_right _ e))]; apply Array.ext'; simp
      rw [e1, e2]
      exact run_v rfl
    · exact h.elim
  case slice t x lo hi mx =>
    cases mx with
    | some m => simp only [] at h
    | none =>
      simp only [] at h
      split at h
      · rename_i ad n c l r hx hl hh
        split at h
        · rename_i e sh b ht
          split at h
          · rename_i ie he
            split at h
            · rename_i i j hi' hj'
              obtain ⟨h0, h1, h2, hk⟩ := h
              refine ⟨_, fun w _ => ?_, hk⟩
              simp only [execOp]
              have el : lo.map a.eval = l := by
                cases lo with
                | none => simpa [opdO] using hl
                | some z =>
                  simp only [opdO] at hl
                  cases hz : opd E z with
                  | none => simp [hz] at hl
                  | some q => simp only [hz, Option.some.injEq] at hl; rw [← hl, Option.map_some, hr.opd hz (fun s e => hp s (by simp [e]))]
              have eh : hi.map a.eval = r := by
                cases hi with
                | none => simpa [opdO] using hh
                | some z =>
                  simp only [opdO] at hh
                  cases hz : opd E z with
                  | none => simp [hz] at hh
                  | some q => simp only [hz, Option.some.injEq] at hh; rw [← hh, Option.map_some, hr.opd hz (fun s e => hp s (by simp [e]))]
              rw [hr.opd hx (fun s e => hp s (by simp [e])), el, eh]
              exact run_v (run_slice (hT.ty _ _ ht) (hT.ty _ _ he) hi' hj' h0 h1 h2 w)
            · exact h.elim
          · exact h.elim
        · exact h.elim
      · exact h.elim
  case fieldAddr s x f =>
    split at h
    · rename_i p hx
      obtain ⟨ad, rfl, h⟩ := onP_elim h
      split at h
      · rename_i fs sh b ht
        split at h
        · rename_i off sz hf
          refine ⟨_, fun w _ => ?_, h⟩
          simp only [execOp]
          rw [hr.opd hx (fun s e => hp s (by simp [e]))]
          exact run_v (run_fieldAt (hT.ty _ _ ht) hf ad w)
        · exact h.elim
      · exact h.elim
    · exact h.elim
  case indexAddr t x ix =>
    split at h
    · rename_i ad n c k i hx hi
      split at h
      · rename_i e sh b ht
        split at h
        · rename_i ie he
          obtain ⟨h0, h1, h⟩ := h
          obtain ⟨ad, rfl, hk⟩ := onP_elim h
          refine ⟨_, fun w _ => ?_, hk⟩
          simp only [execOp]
          rw [hr.opd hx (fun s e => hp s (by simp [e])), hr.opd hi (fun s e => hp s (by simp [e]))]
          exact run_v (run_indexAt (hT.ty _ _ ht) (hT.ty _ _ he) h0 h1 w)
        · exact h.elim
      · exact h.elim
    · exact h.elim
  case index t x ix =>
    split at h
    · rename_i cs k i hx hi
      split at h
      · rename_i n e sh b ht
        split at h
        · rename_i ie he
          split at h
          · rename_i s hs
            obtain ⟨h0, h1, y, hy, hk⟩ := h
            refine ⟨_, fun w _ => ?_, hk⟩
            simp only [execOp]
            rw [hr.opd hx (fun s e => hp s (by simp [e])), hr.opd hi (fun s e => hp s (by simp [e]))]
            exact run_v (run_index (hT.ty _ _ ht) (hT.ty _ _ he) hs h0 h1 y hy w)
          · exact h.elim
        · exact h.elim
      · exact h.elim
    · exact h.elim
  case extract x i =>
    split at h
    · rename_i vs hx
      obtain ⟨v, hv, hk⟩ := onV_elim h
      refine ⟨_, fun w _ => ?_, hk⟩
      simp only [execOp]
      rw [hr.opd hx (fun s e => hp s (by simp [e]))]
      refine run_v ?_
      simp only [Instr.extract, hv]; rfl
    · exact h.elim
  case build t ps =>
    have arg : ∀ {l}, parts E ps.toList = some l → (ps.map fun (i, x) => (i, a.eval x)) = l.toArray := by
      intro l hl
      rw [← hr.parts _ _ hl (fun s e => hp s (by simpa using e))]
      apply Array.ext'
      simp
    split at h
    · rename_i fs sh b ht
      split at h
      · rename_i l hl
        split at h
        · rename_i cs hc
          refine ⟨_, fun w _ => ?_, h⟩
          simp only [execOp]
          rw [arg hl]
          exact run_v (run_build_struct (hT.ty _ _ ht) hc w)
        · exact h.elim
      · exact h.elim
    · rename_i n e sh b ht
      split at h
      · rename_i ie he
        split at h
        · rename_i l hl
          split at h
          · rename_i cs hc
            refine ⟨_, fun w _ => ?_, h⟩
            simp only [execOp]
            rw [arg hl]
            exact run_v (run_build_arr (hT.ty _ _ ht) (hT.ty _ _ he) hc w)
          · exact h.elim
        · exact h.elim
      · exact h.elim
    · exact h.elim
  case lookup t m k ok =>
    split at h
    · rename_i r kd k' kt e sh b hm hk ht
      split at h
      · rename_i kd' sh' b' ie htk hte
        obtain ⟨hkd, h⟩ := h
        have gen : ∀ w, (execOp a.eval ⟨dst, .lookup t m k ok, type, pos, after, guard⟩).run P w = (do pure (Next.value (← Instr.lookup t (.map r) (.int kd k') ok)) : Sem Next).run P w := by
          intro w
          simp only [execOp]
          rw [hr.opd hm (fun s e => hp s (by simp [e])), hr.opd hk (fun s e => hp s (by simp [e]))]
        cases r with
        | none =>
          simp only [onM] at h
          exact ⟨_, fun w _ => by rw [gen]; exact run_v (run_lookup_none (hT.ty _ _ ht) (hT.ty _ _ htk) (hT.ty _ _ hte) k' ok w), h⟩
        | some r =>
          simp only [onM] at h
          obtain ⟨es, hes, y, hy, hk⟩ := h
          refine ⟨_, fun w hw => ?_, hk⟩
          obtain ⟨clock, hcl⟩ := hM _ hes w hw
          rw [gen]
          have := run_lookup (hT.ty _ _ ht) (hT.ty _ _ htk) (hT.ty _ _ hte) hcl k' ok
          cases hf : findE es k' with
          | none => rw [hf] at this hy; simp only [Option.getD_none] at hy; rw [← hy]; exact run_v this
          | some v => rw [hf] at this hy; simp only [Option.getD_some] at hy; rw [← hy]; exact run_v this
      · exact h.elim
    · exact h.elim
  case call c =>
    obtain ⟨callee, args, argTypes⟩ := c
    have arg : ∀ {l}, opds E args.toList = some l → args.map a.eval = l.toArray := by
      intro l hl
      rw [← hr.opds args.toList _ hl (fun s e => hp s (by unfold Call.operands; rw [Array.toList_append]; exact List.mem_append_right _ e))]; apply Array.ext'; simp
    cases callee with
    | value f => simp only [] at h
    | invoke f n => simp only [] at h
    | builtin b =>
      have gen : ∀ {l}, opds E args.toList = some l → ∀ w, (execOp a.eval ⟨dst, .call ⟨.builtin b, args, argTypes⟩, type, pos, after, guard⟩).run P w = (builtin b argTypes type (args.map fun | .const _ => true | _ => false) l.toArray).run P w := by
        intro l hl w
        simp only [execOp, resolve]
        rw [arg hl]
        rw [bind_ok (run_pure P _ w)]
        simp only [invoke]
        rfl
      cases b <;> simp only [] at h <;> (try (exact h.elim))
      case cap =>
        split at h
        · rename_i ad n c hl
          split at h
          · rename_i t r hat
            split at h
            · rename_i e sh b ht
              refine ⟨_, fun w _ => ?_, h⟩
              rw [gen hl]
              refine run_v ?_
              have ha : argTypes[0]? = some t := by
                have : argTypes.toList[0]? = some t := by rw [hat]; rfl
                simpa using this
              have hu : P.underlying t = some (.slice e) := (hT.ty _ _ ht).und
              unfold Builtin.cap_
              simp only [ha, List.getElem?_toArray, List.getElem?_cons_zero]
              first | (rw [bind_ok (run_underlying hu w)]; rfl) | rfl
            · exact h.elim
          · exact h.elim
        · exact h.elim
      case len =>
        split at h
        · rename_i ad n c hl
          split at h
          · rename_i t r hat
            split at h
            · rename_i e sh b ht
              refine ⟨_, fun w _ => ?_, h⟩
              rw [gen hl]
              refine run_v ?_
              have ha : argTypes[0]? = some t := by
                have : argTypes.toList[0]? = some t := by rw [hat]; rfl
                simpa using this
              have hu : P.underlying t = some (.slice e) := (hT.ty _ _ ht).und
              unfold Builtin.len_
              simp only [ha, List.getElem?_toArray, List.getElem?_cons_zero]
              rw [bind_ok (run_underlying hu w)]; rfl
            · exact h.elim
          · exact h.elim
        · rename_i s hl
          split at h
          · rename_i t r hat
            split at h
            · rename_i sh b ht
              refine ⟨_, fun w _ => ?_, h⟩
              rw [gen hl]
              refine run_v ?_
              have ha : argTypes[0]? = some t := by
                have : argTypes.toList[0]? = some t := by rw [hat]; rfl
                simpa using this
              have hu : P.underlying t = some .string := (hT.ty _ _ ht).und
              unfold Builtin.len_
              simp only [ha, List.getElem?_toArray, List.getElem?_cons_zero]
              rw [bind_ok (run_underlying hu w)]; rfl
            · exact h.elim
          · exact h.elim
        · rename_i r hl
          split at h
          · rename_i t rr hat
            split at h
            · rename_i kt e sh b ht
              split at h
              · rename_i kd sh' b' htk
                have ha : argTypes[0]? = some t := by
                  have : argTypes.toList[0]? = some t := by rw [hat]; rfl
                  simpa using this
                have hu : P.underlying t = some (.map kt e) := (hT.ty _ _ ht).und
                cases r with
                | none =>
                  simp only [onM] at h
                  refine ⟨_, fun w _ => ?_, h⟩
                  rw [gen hl]
                  refine run_v ?_
                  unfold Builtin.len_
                  simp only [ha, List.getElem?_toArray, List.getElem?_cons_zero]
                  rw [bind_ok (run_underlying hu w)]; rfl
                | some r =>
                  simp only [onM] at h
                  obtain ⟨es, hes, hk⟩ := h
                  refine ⟨_, fun w hw => ?_, hk⟩
                  obtain ⟨clock, hcl⟩ := hM _ hes w hw
                  rw [gen hl]
                  refine run_v ?_
                  unfold Builtin.len_
                  simp only [ha, List.getElem?_toArray, List.getElem?_cons_zero]
                  rw [bind_ok (run_underlying hu w)]
                  simp only []
                  rw [bind_ok (run_getMap hcl)]
                  simp [entries, goInt]
              · exact h.elim
            · exact h.elim
          · exact h.elim
        · exact h.elim
      case max =>
        split at h
        · rename_i u v hl
          obtain ⟨r, hb, hk⟩ := onV_elim h
          refine ⟨r, fun w _ => ?_, hk⟩
          rw [gen hl]
          refine run_v ?_
          cases u <;> cases v <;> simp only [max2, reduceCtorEq, Option.some.injEq] at hb
          subst hb; rfl
        · exact h.elim
      case min =>
        split at h
        · rename_i u v hl
          obtain ⟨r, hb, hk⟩ := onV_elim h
          refine ⟨r, fun w _ => ?_, hk⟩
          rw [gen hl]
          refine run_v ?_
          cases u <;> cases v <;> simp only [min2, reduceCtorEq, Option.some.injEq] at hb
          subst hb; rfl
        · exact h.elim
end
end Go.Vc
/- The verification condition is sound: the operations that make memory, write it, or call. -/
namespace Go.Vc
open Go
section
variable {P : Program} {T : Tab}
theorem zrow_length (z : List Value) : ∀ n, (zrow z n).length = n * z.length
  | 0 => by simp [zrow]
  | n + 1 => by simp [zrow, zrow_length z n, Nat.succ_mul, Nat.add_comm]
theorem zrow_get (z : List Value) : ∀ (n i : Nat), i < n * z.length → (zrow z n)[i]? = z[i % z.length]?
  | 0, i, h => by simp at h
  | n + 1, i, h => by
    simp only [zrow]
    by_cases hi : i < z.length
    · rw [List.getElem?_append_left hi, Nat.mod_eq_of_lt hi]
    · rw [List.getElem?_append_right (by omega)]
      have : i - z.length < n * z.length := by rw [Nat.succ_mul] at h; omega
      rw [zrow_get z n _ this]
      conv => rhs; rw [show i = (i - z.length) + z.length by omega, Nat.add_mod_right]
theorem range_zrow (z : List Value) (n : Nat) : ((Array.range (n * z.length)).map fun i => z.toArray[i % z.toArray.size]!) = (zrow z n).toArray := by
  apply Array.ext'
  apply List.ext_getElem?
  intro i
  simp only [Array.toList_map, Array.toList_range, List.getElem?_map]
  by_cases h : i < n * z.length
  · rw [zrow_get z n i h]
    have hz : 0 < z.length := by
      rcases Nat.eq_zero_or_pos z.length with e | e
      · rw [e] at h; omega
      · exact e
    have hm : i % z.length < z.length := Nat.mod_lt _ hz
    simp [h, hm]
  · rw [List.getElem?_eq_none (by simp; omega), List.getElem?_eq_none (by rw [zrow_length]; omega)]; rfl
theorem zcells_length (i : TInfo) : i.zcells.length = i.sh.length := by simp [TInfo.zcells]
theorem zero_cells {t : Nat} {i : TInfo} (ok : TyOk P t i) : i.zero.cells = i.zcells.toArray := by
  cases ha : i.isAgg
  · obtain ⟨s, hs, _, hz⟩ := ty_cell ok ha
    rw [hz]; unfold TInfo.zcells; rw [hs]
    cases s <;> rfl
  · unfold TInfo.isAgg at ha; unfold TInfo.zero
    split at ha <;> rename_i hk <;> first | (rw [hk]; rfl) | (cases ha; rfl) | cases ha
theorem run_newObj (o : Obj) (w : World) : (newObj o).run P w = .ok w.heap.size (w.alloc o) := rfl
theorem run_newVar (t : Nat) (v : Value) (w : World) : (newVar t v).run P w = .ok ⟨w.heap.size, 0, none⟩ (w.alloc (.cells v.cells t)) := by
  unfold newVar newRow
  rw [bind_ok (run_newObj _ w)]; rfl
theorem run_setObj {w : World} {r : Nat} {o o' : Obj} (h : w.heap[r]? = some o') (hc : ∀ c e f, o' ≠ .cells c e f) : (setObj r o).run P w = .ok () (World.setObj w r o) := by
  unfold setObj
  cases o' <;> first
    | (exact absurd rfl (hc _ _ _))
    | (simp only [Sem.run, h]; rfl)
theorem set_modify : ∀ (es : List En) (k : Int) (v : Value) (kd : IntKind) (i : Nat) (u : Value) (j : Nat), findI es k j = some (i, u) → j ≤ i ∧
    (∃ e, es[i - j]? = some e ∧ e.k = k) ∧ (es.map (En.e kd)).modify (i - j) (fun e => { e with key := .int kd k, val := v }) = (setE es k v).map (En.e kd) ∧ hasE es k = true
  | [], _, _, _, _, _, _, h => by simp [findI] at h
  | e :: r, k, v, kd, i, u, j, h => by
    unfold findI at h
    by_cases hk : k = e.k
    · simp only [hk, if_true, Option.some.injEq, Prod.mk.injEq] at h
      obtain ⟨rfl, rfl⟩ := h
      refine ⟨Nat.le_refl _, ⟨e, by simp, hk.symm⟩, ?_, by simp [hasE, hk]⟩
      simp [setE, hk, En.e]
    · simp only [hk, if_false] at h
      obtain ⟨h1, ⟨x, hx, hxk⟩, h2, h3⟩ := set_modify r k v kd i u (j + 1) h
      have : i - j = (i - (j + 1)) + 1 := by omega
      refine ⟨by omega, ⟨x, by rw [this]; simpa using hx, hxk⟩, ?_, by simp [hasE, hk, h3]⟩
      rw [this]
      simp only [List.map_cons, List.modify_succ_cons, setE, hk, if_false]
      rw [h2]
theorem findI_none : ∀ (es : List En) (k : Int) (j : Nat), findI es k j = none → hasE es k = false
  | [], _, _, _ => rfl
  | e :: r, k, j, h => by
    unfold findI at h
    by_cases hk : k = e.k
    · simp [hk] at h
    · simp only [hk, if_false] at h
      simp [hasE, hk, findI_none r k _ h]
theorem run_mapUpdate {t kt e : Nat} {sh shk : List Sh} {b bk : Nat} {q kd : IntKind} (ok : TyOk P t ⟨.map kt e, sh, b⟩) (okk : TyOk P kt ⟨.int q, shk, bk⟩) {r : Nat} {es : List En} {clock : Nat} {w : World} (hm : mapAt w r kd es clock) (k : Int) (v : Value) :
    (Instr.mapUpdate t (.map (some r)) (.int kd k) v).run P w = .ok () (World.setObj w r (.map (entries kd (putM es clock k v)) (putClock es clock k))) := by
  have hu : P.underlying t = some (.map kt e) := ok.und
  have huk : P.underlying kt = some (.int q) := okk.und
  unfold Instr.mapUpdate
  rw [bind_ok (run_underlying hu w)]
  simp only []
  rw [bind_ok (run_getMap hm)]
  simp only []
  rw [bind_ok (run_checkKey huk _ k w)]
  have hf := run_findKey (kd := kd) huk k es w
  rw [show (entries kd es).toList = es.map (En.e kd) by simp [entries], bind_ok hf]
  cases hi : findI es k 0 with
  | none =>
    have hh := findI_none es k 0 hi
    simp only []
    rw [run_setObj hm (by simp)]
    congr 2
    simp [putM, putClock, hh, entries, En.e]
  | some p =>
    obtain ⟨i, u⟩ := p
    obtain ⟨_, ⟨x, hx, hxk⟩, h2, h3⟩ := set_modify es k v kd i u 0 hi
    simp only [Nat.sub_zero] at hx h2
    simp only []
    have hkey : (((entries kd es)[i]?).map (·.key)).getD (.int kd k) = .int kd k := by
      simp [entries, hx, En.e, hxk]
    rw [hkey]
    have hstay : (Instr.keyThatStays (.int kd k) (.int kd k)).run P w = .ok (.int kd k) w := by
      unfold Instr.keyThatStays
      have : Instr.sameBits 10000 (.int kd k) (.int kd k) = true := by
        rw [show (10000 : Nat) = 9999 + 1 from rfl]; simp [Instr.sameBits]
      simp only [this, if_true]; rfl
    rw [bind_ok hstay, run_setObj hm (by simp)]
    congr 2
    simp only [putM, putClock, h3, if_true]
    congr 1
    apply Array.ext'
    simp only [entries]
    rw [Array.toList_modify]
    exact h2
theorem del_erase : ∀ (es : List En) (k : Int) (kd : IntKind) (i : Nat) (u : Value) (j : Nat), findI es k j = some (i, u) → j ≤ i ∧ (es.map (En.e kd)).eraseIdx (i - j) = (delE es k).map (En.e kd)
  | [], _, _, _, _, _, h => by simp [findI] at h
  | e :: r, k, kd, i, u, j, h => by
    unfold findI at h
    by_cases hk : k = e.k
    · simp only [hk, if_true, Option.some.injEq, Prod.mk.injEq] at h
      obtain ⟨rfl, rfl⟩ := h
      exact ⟨Nat.le_refl _, by simp [delE, hk]⟩
    · simp only [hk, if_false] at h
      obtain ⟨h1, h2⟩ := del_erase r k kd i u (j + 1) h
      have : i - j = (i - (j + 1)) + 1 := by omega
      refine ⟨by omega, ?_⟩
      rw [this]
      simp only [List.map_cons, List.eraseIdx_cons_succ, delE, hk, if_false]
      rw [h2]
theorem findI_none_del : ∀ (es : List En) (k : Int) (j : Nat), findI es k j = none → delE es k = es
  | [], _, _, _ => rfl
  | e :: r, k, j, h => by
    unfold findI at h
    by_cases hk : k = e.k
    · simp [hk] at h
    · simp only [hk, if_false] at h
      simp [delE, hk, findI_none_del r k _ h]
theorem run_delete {t kt e : Nat} {sh shk : List Sh} {b bk : Nat} {q kd : IntKind} (ok : TyOk P t ⟨.map kt e, sh, b⟩) (okk : TyOk P kt ⟨.int q, shk, bk⟩) {r : Nat} {es : List En} {clock : Nat} {w : World} (hm : mapAt w r kd es clock) (k : Int) (ats : Array TypeId) (hat : ats[0]? = some t) (ty : TypeId) :
    (Builtin.delete_ ats ty #[.map (some r), .int kd k]).run P w = .ok (.tuple #[]) (World.setObj w r (.map (entries kd (delE es k)) clock)) := by
  have hu : P.underlying t = some (.map kt e) := ok.und
  have huk : P.underlying kt = some (.int q) := okk.und
  unfold Builtin.delete_
  simp only [hat, List.getElem?_toArray, List.getElem?_cons_zero, List.getElem?_cons_succ]
  rw [bind_ok (run_underlying hu w)]
  simp only []
  rw [bind_ok (run_getMap hm)]
  simp only []
  rw [bind_ok (run_checkKey huk _ k w)]
  have hf := run_findKey (kd := kd) huk k es w
  rw [show (entries kd es).toList = es.map (En.e kd) by simp [entries], bind_ok hf]
  cases hi : findI es k 0 with
  | none =>
    simp only []
    rw [bind_ok (run_setObj hm (by simp)), findI_none_del es k 0 hi]; rfl
  | some p =>
    obtain ⟨i, u⟩ := p
    obtain ⟨_, h2⟩ := del_erase es k kd i u 0 hi
    simp only [Nat.sub_zero] at h2
    simp only []
    have he : (entries kd es).eraseIdxIfInBounds i = entries kd (delE es k) := by
      apply Array.ext'
      rw [Array.toList_eraseIdxIfInBounds]
      simp only [entries]
      exact h2
    rw [bind_ok (run_setObj hm (by simp)), he]; rfl
theorem run_firstCells {w : World} {a : Option Addr} {n c c' size : Nat} {vs : List Value} (hl : vs.length = n * size) (h : ∀ ad, a = some ad → cellsAt w ad 0 vs) (h0 : a = none → n = 0) :
    (Builtin.firstCells size n (.slice a c' c)).run P w = .ok vs.toArray w := by
  cases a with
  | none =>
    have := h0 rfl
    subst this
    have : vs = [] := List.length_eq_zero_iff.1 (by simpa using hl)
    subst this; rfl
  | some ad =>
    unfold Builtin.firstCells
    exact run_loadCells hl (h ad rfl)
theorem cellsAt_heap {w w' : World} (h : w'.heap = w.heap) (a : Addr) : ∀ (vs : List Value) (i : Nat), cellsAt w a i vs → cellsAt w' a i vs
  | [], _, _ => trivial
  | [v], i, hc => by simp only [cellsAt, World.cell?, h] at *; exact hc
  | v :: u :: r, i, hc => by
    simp only [cellsAt] at *
    refine ⟨?_, cellsAt_heap h a (u :: r) (i + 1) hc.2⟩
    have := hc.1
    simp only [World.cell?, h] at *
    exact this
theorem run_append_fits {t t' e e' : Nat} {sh sh' : List Sh} {b b' : Nat} {ie : TInfo} (ok : TyOk P t ⟨.slice e, sh, b⟩) (ok' : TyOk P t' ⟨.slice e', sh', b'⟩) (oke : TyOk P e ie) {a x : Option Addr} {n c m d : Nat} {w : World} {news : List Value}
    (hn : news.length = m * ie.sh.length) (h1 : news.all one = true) (hx : ∀ ad, x = some ad → cellsAt w ad 0 news) (hx0 : x = none → m = 0) (hfit : n + m ≤ c)
    (hst : ∀ ad, a = some ad → storable w (ad.add (n * ie.sh.length)) 0 news) (ats : Array TypeId) (hat : ats[0]? = some t) (hat' : ats[1]? = some t') (ty : TypeId) :
    (Builtin.append_ ats ty #[.slice a n c, .slice x m d]).run P w = .ok (.slice a (n + m) c) (storeO a w (n * ie.sh.length) news) := by
  have hu : P.underlying t = some (.slice e) := ok.und
  have hu' : P.underlying t' = some (.slice e') := ok'.und
  unfold Builtin.append_
  simp only [hat, hat', List.getElem?_toArray, List.getElem?_cons_zero, List.getElem?_cons_succ]
  rw [bind_ok (run_underlying hu w)]
  simp only []
  rw [bind_ok (run_sizeOf oke w), bind_ok (run_underlying hu' w)]
  simp only []
  rw [bind_ok (run_pure P _ w)]
  simp only [Bool.false_eq_true, if_false, Bool.not_false, if_true]
  rw [bind_ok (show (Builtin.lenOf (.slice x m d)).run P w = .ok m w from rfl)]
  simp only [hfit, if_true]
  rw [bind_ok (run_firstCells hn hx hx0)]
  cases a with
  | none => rfl
  | some ad =>
    simp only []
    rw [bind_ok (run_storeCells news w 0 (hst ad rfl) h1)]; rfl
theorem choose_cap (need old : Nat) (e : TypeId) (w : World) (_ : need < 2 ^ 63) : ∃ cap, need ≤ cap ∧ (choose (.appendCap need old e)).run P w = .ok cap w.drew := by
  refine ⟨_, ?_, rfl⟩
  simp only [Question.cut]
  omega
theorem run_append_grows {t t' e e' : Nat} {sh sh' : List Sh} {b b' : Nat} {ie : TInfo} (ok : TyOk P t ⟨.slice e, sh, b⟩) (ok' : TyOk P t' ⟨.slice e', sh', b'⟩) (oke : TyOk P e ie) {a x : Option Addr} {n c m d : Nat} {w : World} {news olds : List Value}
    (hn : news.length = m * ie.sh.length) (hx : ∀ ad, x = some ad → cellsAt w ad 0 news) (hx0 : x = none → m = 0) (hfit : c < n + m)
    (hcap : newCapOk n m c ie.bytes) (hb : ie.bytes ≠ 0) (hol : olds.length = n * ie.sh.length) (ho : ∀ ad, a = some ad → cellsAt w ad 0 olds) (ha0 : a = none → n = 0)
    (ats : Array TypeId) (hat : ats[0]? = some t) (hat' : ats[1]? = some t') (ty : TypeId) :
    ∃ cap, n + m ≤ cap ∧ (Builtin.append_ ats ty #[.slice a n c, .slice x m d]).run P w = .ok (.slice (some ⟨w.heap.size, 0, none⟩) (n + m) cap) (w.alloc (.cells (olds ++ news ++ zrow ie.zcells (cap - (n + m))).toArray e)).drew := by
  have hu : P.underlying t = some (.slice e) := ok.und
  have hu' : P.underlying t' = some (.slice e') := ok'.und
  obtain ⟨ti, hti, _, hby, _⟩ := oke.info
  have hsmall : n + m < 2 ^ 63 := by
    unfold newCapOk at hcap
    have h1 : n + m ≤ Builtin.nextslicecap (n + m) c ∨ n + m ≤ 2 * c := by
      unfold Builtin.nextslicecap
      split
      · exact Or.inl (Nat.le_refl _)
      · exact Or.inr (by omega)
    have h2 : Builtin.nextslicecap (n + m) c ≤ 2 ^ 48 := by
      refine Nat.le_trans ?_ hcap
      exact Nat.le_mul_of_pos_right _ (by omega)
    have h3 : c ≤ Builtin.nextslicecap (n + m) c := by
      unfold Builtin.nextslicecap
      split
      · omega
      · split
        · omega
        · have hg : ∀ r q, q ≤ Builtin.growBy (n + m) r q := by
            intro r
            induction r with
            | zero => intro q; exact Nat.le_refl _
            | succ r ih =>
              intro q
              unfold Builtin.growBy
              split
              · exact Nat.le_refl _
              · exact Nat.le_trans (by omega) (ih _)
          exact hg 4 c
    rcases h1 with h1 | h1 <;> omega
  obtain ⟨cap, hle, hch⟩ := choose_cap (P := P) (n + m) c e w hsmall
  refine ⟨cap, hle, ?_⟩
  unfold Builtin.append_
  simp only [hat, hat', List.getElem?_toArray, List.getElem?_cons_zero, List.getElem?_cons_succ]
  rw [bind_ok (run_underlying hu w)]
  simp only []
  rw [bind_ok (run_sizeOf oke w), bind_ok (run_underlying hu' w)]
  simp only []
  rw [bind_ok (run_pure P _ w)]
  simp only [Bool.false_eq_true, if_false, Bool.not_false, if_true, false_or]
  rw [bind_ok (show (Builtin.lenOf (.slice x m d)).run P w = .ok m w from rfl)]
  rw [if_neg (by omega)]
  rw [bind_ok (run_typeInfo hti w), hby]
  rw [if_neg (by simp [hb])]
  rw [bind_ok (run_typeInfo hti w), hby]
  rw [if_neg (by unfold newCapOk at hcap; omega)]
  rw [bind_ok hch, bind_ok (run_typeInfo hti w.drew), hby]
  have hroom : ∀ k, (askRoom k).run P w.drew = .ok () w.drew := by
    intro k; unfold askRoom; split <;> rfl
  rw [bind_ok (hroom _)]
  rw [bind_ok (run_firstCells (w := w.drew) hol (fun ad e => cellsAt_heap (w := w) (w' := w.drew) rfl ad _ _ (ho ad e)) ha0)]
  rw [bind_ok (run_firstCells (w := w.drew) hn (fun ad e => cellsAt_heap (w := w) (w' := w.drew) rfl ad _ _ (hx ad e)) hx0)]
  rw [bind_ok (run_zeroValue oke w.drew)]
  unfold newRow
  have hz : Builtin.zeroCells ie.zero.cells (cap - (n + m)) = (zrow ie.zcells (cap - (n + m))).toArray := by
    unfold Builtin.zeroCells
    rw [zero_cells oke, ← range_zrow]
    simp
  rw [hz]
  have hrow : (olds.toArray ++ news.toArray ++ (zrow ie.zcells (cap - (n + m))).toArray) = (olds ++ news ++ zrow ie.zcells (cap - (n + m))).toArray := by
    apply Array.ext'; simp
  rw [hrow]
  rfl
theorem run_append_zeros {t t' e : Nat} {q : IntKind} {sh sh' : List Sh} {b b' : Nat} {ie : TInfo} (ok : TyOk P t ⟨.slice e, sh, b⟩) (ok' : TyOk P t' ⟨.int q, sh', b'⟩) (oke : TyOk P e ie) {a : Option Addr} {n c m : Nat} {w : World} {olds : List Value}
    (hm : m ≤ 2 ^ 48) (hmb : m * ie.bytes ≤ 2 ^ 48) (hn48 : n ≤ 2 ^ 48) (hfit : c < n + m)
    (hcap : newCapOk n m c ie.bytes) (_ : ie.bytes ≠ 0) (hol : olds.length = n * ie.sh.length) (ho : ∀ ad, a = some ad → cellsAt w ad 0 olds) (ha0 : a = none → n = 0)
    (ats : Array TypeId) (hat : ats[0]? = some t) (hat' : ats[1]? = some t') (ty : TypeId) :
    ∃ cap, n + m ≤ cap ∧ (Builtin.append_ ats ty #[.slice a n c, .int .i64 m]).run P w = .ok (.slice (some ⟨w.heap.size, 0, none⟩) (n + m) cap) (w.alloc (.cells (olds ++ zrow ie.zcells m ++ zrow ie.zcells (cap - (n + m))).toArray e)).drew := by
  have hu : P.underlying t = some (.slice e) := ok.und
  have hu' : P.underlying t' = some (.int q) := ok'.und
  obtain ⟨ti, hti, _, hby, _⟩ := oke.info
  have hsmall : n + m < 2 ^ 63 := by omega
  obtain ⟨cap, hle, hch⟩ := choose_cap (P := P) (n + m) c e w hsmall
  refine ⟨cap, hle, ?_⟩
  unfold Builtin.append_
  simp only [hat, hat', List.getElem?_toArray, List.getElem?_cons_zero, List.getElem?_cons_succ]
  rw [bind_ok (run_underlying hu w)]
  simp only []
  rw [bind_ok (run_sizeOf oke w), bind_ok (run_underlying hu' w)]
  simp only []
  rw [bind_ok (run_pure P _ w)]
  simp only [Bool.not_true, Bool.false_eq_true, if_true, if_false]
  have hwm : IntKind.i64.wrap (m : Int) = m := by
    have e : IntKind.i64.wrap (m : Int) = if (9223372036854775808 : Int) ≤ (m : Int) % 18446744073709551616 then (m : Int) % 18446744073709551616 - 18446744073709551616 else (m : Int) % 18446744073709551616 := by
      simp [IntKind.wrap, IntKind.bits, IntKind.signed]
    rw [e]; split <;> omega
  rw [bind_ok (show (asInt (.int .i64 (m : Int))).run P w = .ok (m : Int) w from rfl)]
  simp only [hwm]
  rw [if_neg (show ¬ (m : Int) < 0 by omega)]
  rw [bind_ok (run_typeInfo hti w), hby]
  have hmb' : ¬ (m : Int) * (ie.bytes : Int) > 2 ^ 48 := by
    have : ((m * ie.bytes : Nat) : Int) = (m : Int) * (ie.bytes : Int) := by simp
    omega
  rw [if_neg hmb']
  rw [bind_ok (run_pure P _ w)]
  simp only [Int.toNat_natCast]
  rw [if_neg (by omega)]
  rw [bind_ok (run_typeInfo hti w), hby]
  rw [if_neg (by simp [IntKind.max, IntKind.bits, IntKind.signed]; omega)]
  rw [bind_ok (run_typeInfo hti w), hby]
  rw [if_neg (by unfold newCapOk at hcap; omega)]
  rw [bind_ok hch, bind_ok (run_typeInfo hti w.drew), hby]
  have hroom : ∀ k, (askRoom k).run P w.drew = .ok () w.drew := by
    intro k; unfold askRoom; split <;> rfl
  rw [bind_ok (hroom _)]
  rw [bind_ok (run_firstCells (w := w.drew) hol (fun ad e => cellsAt_heap (w := w) (w' := w.drew) rfl ad _ _ (ho ad e)) ha0)]
  have hzm : Builtin.zeroCells ie.zero.cells m = (zrow ie.zcells m).toArray := by
    unfold Builtin.zeroCells
    rw [zero_cells oke, ← range_zrow]
    simp
  have hnew : (if m * ie.sh.length = 0 then pure #[] else do
      let z ← zeroValue e
      pure (Builtin.zeroCells z.cells m) : Sem (Array Value)).run P w.drew = .ok (zrow ie.zcells m).toArray w.drew := by
    split
    · rename_i h0
      have : zrow ie.zcells m = [] := by rw [← List.length_eq_zero_iff, zrow_length, zcells_length]; exact h0
      rw [this]; rfl
    · rw [bind_ok (run_zeroValue oke w.drew), hzm]; rfl
  rw [bind_ok hnew]
  rw [bind_ok (run_zeroValue oke w.drew)]
  unfold newRow
  have hz : Builtin.zeroCells ie.zero.cells (cap - (n + m)) = (zrow ie.zcells (cap - (n + m))).toArray := by
    unfold Builtin.zeroCells
    rw [zero_cells oke, ← range_zrow]
    simp
  rw [hz]
  have hrow : (olds.toArray ++ (zrow ie.zcells m).toArray ++ (zrow ie.zcells (cap - (n + m))).toArray) = (olds ++ zrow ie.zcells m ++ zrow ie.zcells (cap - (n + m))).toArray := by
    apply Array.ext'; simp
  rw [hrow]
  rfl
theorem run_copy {t e : Nat} {sh : List Sh} {b : Nat} {ie : TInfo} (ok : TyOk P t ⟨.slice e, sh, b⟩) (oke : TyOk P e ie) {a x : Option Addr} {n c m d : Nat} {w : World} {news : List Value}
    (hn : news.length = min m n * ie.sh.length) (h1 : news.all one = true) (hx : ∀ ad, x = some ad → cellsAt w ad 0 news) (hx0 : x = none → m = 0)
    (hst : ∀ ad, a = some ad → storable w ad 0 news) (ats : Array TypeId) (hat : ats[0]? = some t) (ty : TypeId) :
    (Builtin.copy_ ats ty #[.slice a n c, .slice x m d]).run P w = .ok (.int .i64 (min m n : Nat)) (storeO a w 0 news) := by
  have hu : P.underlying t = some (.slice e) := ok.und
  unfold Builtin.copy_
  simp only [hat, List.getElem?_toArray, List.getElem?_cons_zero, List.getElem?_cons_succ]
  rw [bind_ok (run_underlying hu w)]
  simp only []
  rw [bind_ok (show (Builtin.lenOf (.slice x m d)).run P w = .ok m w from rfl)]
  rw [bind_ok (run_sizeOf oke w)]
  rw [bind_ok (run_firstCells (n := min m n) hn hx (fun e => by rw [hx0 e]; omega))]
  cases a with
  | none => rfl
  | some ad =>
    simp only []
    rw [bind_ok (run_storeCells news w 0 (hst ad rfl) h1)]; rfl
theorem wrap_i64 {x : Int} (h : -9223372036854775808 ≤ x) (h' : x ≤ 9223372036854775807) : IntKind.i64.wrap x = x := by
  have e : IntKind.i64.wrap x = if (9223372036854775808 : Int) ≤ x % 18446744073709551616 then x % 18446744073709551616 - 18446744073709551616 else x % 18446744073709551616 := by
    unfold IntKind.wrap; simp [IntKind.bits, IntKind.signed]
  rw [e]; split <;> omega
theorem run_makeSlice {t e : Nat} {sh : List Sh} {b : Nat} {ie : TInfo} (ok : TyOk P t ⟨.slice e, sh, b⟩) (oke : TyOk P e ie) {l c : Int} (h0 : 0 ≤ l) (h1 : l ≤ c) (h2 : (ie.bytes : Int) * c ≤ 2 ^ 48) (h3 : c ≤ 2 ^ 48) (w : World) :
    (Instr.makeSlice t (.int .i64 l) (.int .i64 c)).run P w = .ok (.slice (some ⟨w.heap.size, 0, none⟩) l.toNat c.toNat) (w.alloc (.cells (zrow ie.zcells c.toNat).toArray e)) := by
  have hu : P.underlying t = some (.slice e) := ok.und
  obtain ⟨ti, hti, _, hby, _⟩ := oke.info
  have hw : ∀ x : Int, 0 ≤ x → x ≤ 2 ^ 48 → IntKind.i64.wrap x = x := fun x hx hx' => wrap_i64 (by omega) (by omega)
  unfold Instr.makeSlice
  rw [bind_ok (run_underlying hu w)]
  simp only []
  rw [bind_ok (show (asInt (.int .i64 l)).run P w = .ok l w from rfl), bind_ok (show (asInt (.int .i64 c)).run P w = .ok c w from rfl), bind_ok (run_typeInfo hti w), hby]
  simp only [hw l h0 (by omega), hw c (by omega) h3]
  rw [if_neg (by simp; omega)]
  have hroom : ∀ k, (askRoom k).run P w = .ok () w := by
    intro k; unfold askRoom; split <;> rfl
  rw [bind_ok (hroom _), bind_ok (run_sizeOf oke w)]
  by_cases hz : c.toNat * ie.sh.length = 0
  · rw [if_pos hz, bind_ok (run_pure P _ w)]
    have e1 : zrow ie.zcells c.toNat = [] := List.length_eq_zero_iff.1 (by rw [zrow_length, zcells_length]; exact hz)
    have e2 : ∀ f : Nat → Value, (Array.range 0).map f = #[] := fun f => by simp
    rw [hz, e1, e2]
    rfl
  · rw [if_neg hz]
    rw [bind_ok (run_zeroValue oke w), bind_ok (run_pure P _ w), zero_cells oke, ← zcells_length ie, range_zrow]
    rfl
/-! ranging over a map -/
theorem mem_entries {kd : IntKind} {es : List En} {m : MapEntry} : m ∈ entries kd es ↔ ∃ e ∈ es, En.e kd e = m := by
  simp [entries]
theorem run_next {w : World} {ad : Addr} (h0 : ad.off = 0) {m since st clock : Nat} {seen : Array Nat} {es : List En} {kd : IntKind} (hi : w.heap[ad.block]? = some (.mapIter (some m) since seen st)) (hm : mapAt w m kd es clock)
    (hg : seen = #[] ∨ es = [] ∨ ∃ e ∈ es, e.b < st) (t : TypeId) :
    ∃ w1, (w1 = w ∨ w1 = w.drew) ∧
      ((∃ e ∈ es, e.b ∉ seen ∧ (Instr.next (.pointer (some ad)) false t).run P w = .ok (.tuple #[.bool true, .int kd e.k, e.v]) (World.setObj w1 ad.block (.mapIter (some m) since (seen.push e.b) clock))) ∨
       ((∀ e ∈ es, e.b < since → e.b ∈ seen) ∧ (Instr.next (.pointer (some ad)) false t).run P w = .ok (.tuple #[.bool false]) w1)) := by
  obtain ⟨b, off, spot⟩ := ad
  simp only at h0 hi
  subst h0
  have hgo : (Instr.next (.pointer (some ⟨b, 0, spot⟩)) false t) = (do
      match ← getObj b, false with
      | .stringIter s pos, true =>
        if pos < s.size then
          let (c, width) := Utf8.decode s pos
          setObj b (.stringIter s (pos + width))
          pure (.tuple #[.bool true, goInt pos, .int .i32 c])
        else pure (.tuple #[.bool false])
      | .mapIter none _ _ _, false => pure (.tuple #[.bool false])
      | .mapIter (some m) since seen last, false =>
        let .map es clock ← getObj m | stuck "Next: map expected"
        if !seen.isEmpty && !es.isEmpty && es.all (·.born ≥ last) then
          unsupported (.noEntry "instr/Next: every entry that the ranged map held at the last iteration is gone, and it holds new ones")
        let left := es.filter fun e => !seen.contains e.born
        let old := left.filter (·.born < since)
        let new := left.filter (·.born ≥ since)
        let candidates := (if old.isEmpty then #[none] else #[]) ++ (old ++ new).map some
        match candidates[← choose (.mapNext candidates.size)]? with
        | some (some e) =>
          setObj b (.mapIter (some m) since (seen.push e.born) clock)
          pure (.tuple #[.bool true, e.key, e.val])
        | some none => pure (.tuple #[.bool false])
        | none => stuck "Next: no such candidate"
      | _, _ => stuck "Next: iterator of the other kind") := rfl
  have hguard : (!seen.isEmpty && !(entries kd es).isEmpty && (entries kd es).all (·.born ≥ st)) = false := by
    rcases hg with rfl | rfl | ⟨e, he, hlt⟩
    · rfl
    · simp [entries]
    · have : (entries kd es).all (·.born ≥ st) = false := by
        rw [Array.all_eq_false']
        exact ⟨En.e kd e, mem_entries.2 ⟨e, he, rfl⟩, by simp [En.e]; exact hlt⟩
      simp [this]
  generalize hleft : ((entries kd es).filter fun e => !seen.contains e.born) = left at *
  have hmemL : ∀ x, x ∈ left ↔ (∃ e ∈ es, En.e kd e = x ∧ e.b ∉ seen) := by
    intro x
    rw [← hleft, Array.mem_filter, mem_entries]
    constructor
    · rintro ⟨⟨e, he, rfl⟩, hx⟩; exact ⟨e, he, rfl, by simpa [En.e] using hx⟩
    · rintro ⟨e, he, rfl, hx⟩; exact ⟨⟨e, he, rfl⟩, by simpa [En.e] using hx⟩
  generalize hcand : ((if (left.filter (·.born < since)).isEmpty then #[none] else #[]) ++ ((left.filter (·.born < since)) ++ (left.filter (·.born ≥ since))).map some) = cand
  have hmemC : ∀ x, some x ∈ cand ↔ x ∈ left := by
    intro x
    rw [← hcand]
    by_cases hx : x.born < since
    · split <;> simp [hx, Nat.not_le.2 hx]
    · split <;> simp [hx, Nat.not_lt.1 hx]
  have hnone : none ∈ cand → ∀ e ∈ es, e.b < since → e.b ∈ seen := by
    intro hn e he hlt
    rw [← hcand] at hn
    by_cases hempty : (left.filter (·.born < since)).isEmpty = true
    · by_cases hs : e.b ∈ seen
      · exact hs
      · have : En.e kd e ∈ left.filter (·.born < since) := by
          rw [Array.mem_filter]
          exact ⟨(hmemL _).2 ⟨e, he, rfl, hs⟩, decide_eq_true hlt⟩
        rw [Array.isEmpty_iff.1 hempty] at this
        simp at this
    · rw [if_neg hempty] at hn
      simp at hn
  have hpos : 0 < cand.size := by
    rw [← hcand]
    by_cases hempty : (left.filter (·.born < since)).isEmpty = true
    · rw [if_pos hempty]; simp; omega
    · rw [if_neg hempty]
      have : 0 < (left.filter (·.born < since)).size := by
        rcases Nat.eq_zero_or_pos (left.filter (·.born < since)).size with e | e
        · exact absurd (by simpa [Array.isEmpty] using e) hempty
        · exact e
      simp; omega
  have hch : ∃ (c : Nat) (w1 : World), c < cand.size ∧ (w1 = w ∨ w1 = w.drew) ∧ (choose (.mapNext cand.size)).run P w = .ok c w1 := by
    by_cases hf : cand.size ≤ 1
    · refine ⟨0, w, hpos, Or.inl rfl, ?_⟩
      unfold choose
      simp only [Sem.run, Question.forced, hf, decide_true, if_true]
    · refine ⟨w.tape w.drawn (.mapNext cand.size) % cand.size, w.drew, Nat.mod_lt _ hpos, Or.inr rfl, ?_⟩
      unfold choose
      simp only [Sem.run, Question.forced, hf, decide_false, Bool.false_eq_true, if_false]
      rfl
  obtain ⟨c, w1, hc, hw1, hrun⟩ := hch
  refine ⟨w1, hw1, ?_⟩
  have hheap : w1.heap = w.heap := by rcases hw1 with rfl | rfl <;> rfl
  rw [hgo]
  rw [bind_ok (run_getObj hi (by simp))]
  simp only []
  rw [bind_ok (run_getMap hm)]
  simp only [hguard, Bool.false_eq_true, if_false]
  simp only [hleft]
  rw [hcand]
  rw [bind_ok hrun]
  have hget : cand[c]? = some cand[c] := by simp [hc]
  rw [hget]
  cases hx : cand[c] with
  | none =>
    have hmem : none ∈ cand := by rw [← hx]; exact Array.getElem_mem hc
    exact Or.inr ⟨hnone hmem, rfl⟩
  | some x =>
    have hmem : some x ∈ cand := by rw [← hx]; exact Array.getElem_mem hc
    obtain ⟨e, he, rfl, hs⟩ := (hmemL x).1 ((hmemC x).1 hmem)
    refine Or.inl ⟨e, he, hs, ?_⟩
    simp only []
    rw [bind_ok (run_setObj (w := w1) (o' := .mapIter (some m) since seen st) (by rw [hheap]; exact hi) (by simp))]
    rfl
theorem run_entry {w : World} {ad : Addr} (h0 : ad.off = 0) {m since st : Nat} {seen : Array Nat} {es : List En} {kd : IntKind} (hi : w.heap[ad.block]? = some (.mapIter (some m) since seen st)) (hm : mapAt w m kd es st) {e : En}
    (hs : seen.back? = some e.b) (he : e ∈ es) (hu : ∀ f ∈ es, f.b = e.b → f = e) : (Instr.entry (.pointer (some ad))).run P w = .ok (.tuple #[.int kd e.k, e.v]) w := by
  obtain ⟨b, off, spot⟩ := ad
  simp only at h0 hi
  subst h0
  have hgo : (Instr.entry (.pointer (some ⟨b, 0, spot⟩))) = (do
      let .mapIter (some m) _ seen stepped ← getObj b | stuck "Entry: an iterator over a map that is not nil expected"
      let some stamp := seen.back? | stuck "Entry: no step yet"
      let .map es clock ← getObj m | stuck "Entry: map expected"
      if clock != stepped then unsupported (.noEntry "instr/Entry: an insertion since the step")
      match es.find? (·.born == stamp) with
      | some e => pure (.tuple #[e.key, e.val])
      | none => unsupported (.noEntry "instr/Entry.removed")) := rfl
  rw [hgo, bind_ok (run_getObj hi (by simp))]
  simp only [hs]
  rw [bind_ok (run_getMap hm)]
  have hf : (entries kd es).find? (·.born == e.b) = some (En.e kd e) := by
    cases hq : (entries kd es).find? (·.born == e.b) with
    | none =>
      rw [Array.find?_eq_none] at hq
      exact absurd (hq (En.e kd e) (mem_entries.2 ⟨e, he, rfl⟩)) (by simp [En.e])
    | some x =>
      have h1 := Array.find?_some hq
      have h2 := Array.mem_of_find?_eq_some hq
      obtain ⟨f, hf, rfl⟩ := mem_entries.1 h2
      have : f.b = e.b := by simpa [En.e] using h1
      rw [hu f hf this]
  simp only [bne_self_eq_false, Bool.false_eq_true, if_false, hf]
  rfl
end
end Go.Vc
/- The verification condition is sound: the theorem on the operations that make memory, write it, or call. -/
namespace Go.Vc
open Go
section
variable {P : Program} {T : Tab}
theorem wp_value {o : Oper} {a : Act} {w w' : World} {v : Value} {next : Act → World → Prop} {Q : Exit → Act → World → Prop} (h : (execOp a.eval o).run P w = .ok (.value v) w') (hn : next (a.put o.dst v) w') : o.wp P a w next Q := by
  unfold Oper.wp; rw [h]; exact hn
theorem wp_skipped {o : Oper} {a : Act} {w w' : World} {next : Act → World → Prop} {Q : Exit → Act → World → Prop} (h : (execOp a.eval o).run P w = .ok .skip w') (hn : next (a.put o.dst undef) w') : o.wp P a w next Q := by
  unfold Oper.wp; rw [h]; exact hn
theorem run_u {m : Sem Unit} {w w' : World} (h : m.run P w = .ok () w') : (do m; pure Next.skip : Sem Next).run P w = .ok .skip w' := by
  rw [bind_ok h]; rfl
theorem vcE_sound (hT : TabOk P T) {N : Nat} {pend : Nat → Prop} {E : Env} {a : Act} (hr : Rep N pend E a) {o : Oper} {w : World} {K : Env → World → Prop} {next : Act → World → Prop} {Q : Exit → Act → World → Prop}
    (hd : ∀ s, o.dst = some s → s < N)
    (hp : ∀ s, Operand.tmp s ∈ o.op.operands.toList → ¬ pend s) (h : vcE P T o E w K)
    (hK : ∀ E' v w', Rep N pend E' (a.put o.dst v) → K E' w' → (∀ s, get E' s = get (putE o.dst v E) s ∨ 1000000 ≤ s) → Wsame w w' → next (a.put o.dst v) w') : o.wp P a w next Q := by
  have fin : ∀ v w', Wsame w w' → K (putE o.dst v E) w' → next (a.put o.dst v) w' := fun v w' hs hk => hK _ v w' (hr.put hd v) hk (fun _ => Or.inl rfl) hs
  obtain ⟨dst, op, type, pos, after, guard⟩ := o
  cases op <;> simp only [vcE] at h <;> simp only [Op.operands] at hp <;> (try (exact h.elim))
  case alloc t =>
    split at h
    · rename_i i ht
      refine wp_value ?_ (fin _ _ (by first | exact ⟨rfl, rfl, rfl⟩ | exact Wsame.storeAll _ _ _ _ | exact Wsame.storeO _ _ _ _) h)
      simp only [execOp, Instr.alloc]
      have : (do pure (Value.pointer (some (← newVar t i.zero))) : Sem Value).run P w = .ok (.pointer (some ⟨w.heap.size, 0, none⟩)) (w.alloc (.cells i.zero.cells t)) := by
        rw [bind_ok (run_newVar t i.zero w)]; rfl
      refine run_v ?_
      rw [bind_ok (run_zeroValue (hT.ty _ _ ht) w)]
      exact this
    · exact h.elim
  case box t x =>
    split at h
    · rename_i v hx
      refine wp_value ?_ (fin _ _ (by first | exact ⟨rfl, rfl, rfl⟩ | exact Wsame.storeAll _ _ _ _ | exact Wsame.storeO _ _ _ _) h)
      simp only [execOp]
      rw [hr.opd hx (fun s e => hp s (by simp [e]))]
      refine run_v ?_
      unfold Instr.box
      rw [bind_ok (run_newVar t v w)]; rfl
    · exact h.elim
  case buildSlice t len ps =>
    split at h
    · rename_i e sh b ht
      split at h
      · rename_i ie he
        split at h
        · rename_i l hl hsm
          split at h
          · rename_i cs hc
            refine wp_value ?_ (fin _ _ (by first | exact ⟨rfl, rfl, rfl⟩ | exact Wsame.storeAll _ _ _ _ | exact Wsame.storeO _ _ _ _) h)
            simp only [execOp]
            have arg : (ps.map fun (i, x) => (i, a.eval x)) = l.toArray := by
              rw [← hr.parts _ _ hl (fun s e => hp s (by simpa using e))]
              apply Array.ext'
              simp
            rw [arg]
            refine run_v ?_
            have hu : P.underlying t = some (.slice e) := (hT.ty _ _ ht).und
            have oke := hT.ty _ _ he
            have hle : len * ie.sh.length ≤ 1000 := Nat.le_of_ble_eq_true hsm
            unfold Instr.buildSlice
            rw [bind_ok (run_underlying hu w)]
            simp only []
            rw [bind_ok (run_sizeOf oke w), if_neg (by omega)]
            have hcs : Instr.fill (fun i => some (i * ie.sh.length, ie.sh.length)) ((Array.range (len * ie.sh.length)).map fun i => (if len * ie.sh.length = 0 then #[] else ie.zcells.toArray)[i % (if len * ie.sh.length = 0 then (#[] : Array Value) else ie.zcells.toArray).size]!) l = some cs := by
              rw [← hc]
              unfold fillL
              congr 1
              by_cases hz : len * ie.sh.length = 0
              · have e1 : zrow ie.zcells len = [] := List.length_eq_zero_iff.1 (by rw [zrow_length, zcells_length]; exact hz)
                rw [e1, hz]; simp
              · rw [if_neg hz, ← zcells_length ie, range_zrow]
            by_cases hz : len * ie.sh.length = 0
            · rw [if_pos hz, bind_ok (run_pure P _ w)]
              rw [if_pos hz] at hcs
              simp only [hcs]
              rfl
            · rw [if_neg hz, bind_ok (run_zeroValue oke w), bind_ok (run_pure P _ w), zero_cells oke]
              rw [if_neg hz] at hcs
              simp only [hcs]
              rfl
          · exact h.elim
        · exact h.elim
      · exact h.elim
    · exact h.elim
  case store t x y =>
    split at h
    · rename_i p v hx hy
      obtain ⟨ad, rfl, h⟩ := onP_elim h
      split at h
      · rename_i i ht
        split at h
        · rename_i hsz
          obtain ⟨hs, h1, hk⟩ := h
          refine wp_skipped ?_ (fin _ _ (by first | exact ⟨rfl, rfl, rfl⟩ | exact Wsame.storeAll _ _ _ _ | exact Wsame.storeO _ _ _ _) hk)
          simp only [execOp]
          rw [hr.opd hx (fun s e => hp s (by simp [e])), hr.opd hy (fun s e => hp s (by simp [e]))]
          refine run_u ?_
          unfold Instr.storeAt
          rw [bind_ok (show (Instr.sureAddr (.pointer (some ad))).run P w = .ok ad w from rfl)]
          exact run_storeVar (hT.ty _ _ ht) (Nat.eq_of_beq_eq_true hsz) hs h1
        · exact h.elim
      · exact h.elim
    · exact h.elim
  case makeMap t r =>
    cases r with
    | some r => simp only [] at h
    | none =>
      simp only [] at h
      refine wp_value ?_ (fin _ _ (by first | exact ⟨rfl, rfl, rfl⟩ | exact Wsame.storeAll _ _ _ _ | exact Wsame.storeO _ _ _ _) h)
      simp only [execOp]
      exact run_v rfl
  case makeSlice t l c =>
    split at h
    · rename_i i j e sh b hl hc ht
      split at h
      · rename_i ie he
        obtain ⟨h0, h1, h2, h3, hk⟩ := h
        refine wp_value ?_ (fin _ _ (by first | exact ⟨rfl, rfl, rfl⟩ | exact Wsame.storeAll _ _ _ _ | exact Wsame.storeO _ _ _ _) hk)
        simp only [execOp]
        rw [hr.opd hl (fun s e => hp s (by simp [e])), hr.opd hc (fun s e => hp s (by simp [e]))]
        exact run_v (run_makeSlice (hT.ty _ _ ht) (hT.ty _ _ he) h0 h1 h2 h3 w)
      · exact h.elim
    · exact h.elim
  case mapUpdate t m k v =>
    split at h
    · rename_i r kd k' u kt e sh b hm hk hv ht
      split at h
      · rename_i kd' sh' b' htk
        obtain ⟨hkd, h⟩ := h
        cases r with
        | none => exact h.elim
        | some r =>
          simp only [onM] at h
          obtain ⟨es, clock, hes, hk'⟩ := h
          refine wp_skipped ?_ (fin _ _ (by first | exact ⟨rfl, rfl, rfl⟩ | exact Wsame.storeAll _ _ _ _ | exact Wsame.storeO _ _ _ _) hk')
          simp only [execOp]
          rw [hr.opd hm (fun s e => hp s (by simp [e])), hr.opd hk (fun s e => hp s (by simp [e])), hr.opd hv (fun s e => hp s (by simp [e]))]
          exact run_u (run_mapUpdate (hT.ty _ _ ht) (hT.ty _ _ htk) hes k' u)
      · exact h.elim
    · exact h.elim
  case range t x =>
    split at h
    · rename_i _ r kt e sh b d hx ht
      cases r with
      | none =>
        simp only [onM] at h
        refine wp_value ?_ (hK _ _ _ ((hr.put hd _).hint d _) h ?_ ⟨rfl, rfl, rfl⟩)
        · simp only [execOp]
          rw [hr.opd hx (fun s e => hp s (by simp [e]))]
          refine run_v ?_
          have hu : P.underlying t = some (.map kt e) := (hT.ty _ _ ht).und
          unfold Instr.range
          rw [bind_ok (run_underlying hu w)]; rfl
        · intro s
          by_cases hs : hint d = s
          · exact Or.inr (by unfold hint at hs; omega)
          · exact Or.inl (by rw [get_cons_ne _ _ hs])
      | some r =>
        simp only [onM] at h
        obtain ⟨es, clock, hes, hk'⟩ := h
        refine wp_value ?_ (hK _ _ _ ((hr.put hd _).hint d _) hk' ?_ ⟨rfl, rfl, rfl⟩)
        · simp only [execOp]
          rw [hr.opd hx (fun s e => hp s (by simp [e]))]
          refine run_v ?_
          have hu : P.underlying t = some (.map kt e) := (hT.ty _ _ ht).und
          unfold Instr.range
          rw [bind_ok (run_underlying hu w)]
          simp only []
          rw [bind_ok (run_getMap hes)]
          rfl
        · intro s
          by_cases hs : hint d = s
          · exact Or.inr (by unfold hint at hs; omega)
          · exact Or.inl (by rw [get_cons_ne _ _ hs])
    · exact h.elim
  case next x b =>
    cases x <;> cases b <;> simp only [] at h
    rename_i it
    split at h
    · rename_i p t hx hh
      split at h
      · rename_i kt et sh by_ ht
        split at h
        · rename_i kd sh' b' htk
          obtain ⟨ad, rfl, h⟩ := onP_elim h
          obtain ⟨h0, m, since, seen, st, hi, h⟩ := h
          have ex : (execOp a.eval ⟨dst, .next (.tmp it) false, type, pos, after, guard⟩) = (do pure (Next.value (← Instr.next (.pointer (some ad)) false type))) := by
            simp only [execOp]
            rw [hr.opd hx (fun s e => hp s (by simp [e]))]
          cases m with
          | none =>
            simp only [onM] at h
            refine wp_value ?_ (fin _ _ (by first | exact ⟨rfl, rfl, rfl⟩ | exact Wsame.storeAll _ _ _ _ | exact Wsame.storeO _ _ _ _) h)
            rw [ex]
            refine run_v ?_
            obtain ⟨b0, off, spot⟩ := ad
            simp only at h0 hi
            subst h0
            unfold Instr.next
            simp only []
            rw [bind_ok (run_getObj hi (by simp))]
            rfl
          | some m =>
            simp only [onM] at h
            obtain ⟨es, clock, hm, hg, hyes, hno⟩ := h
            obtain ⟨w1, hw1, hrun⟩ := run_next (P := P) h0 hi hm hg type
            rcases hrun with ⟨e, he, hs, hrun⟩ | ⟨hall, hrun⟩
            · exact wp_value (by rw [ex]; exact run_v hrun) (fin _ _ (by rcases hw1 with rfl | rfl <;> exact ⟨rfl, rfl, rfl⟩) (hyes e he hs w1 hw1))
            · exact wp_value (by rw [ex]; exact run_v hrun) (fin _ _ (by rcases hw1 with rfl | rfl <;> exact ⟨rfl, rfl, rfl⟩) (hno hall w1 hw1))
        · exact h.elim
      · exact h.elim
    · exact h.elim
  case entry x =>
    cases x <;> simp only [] at h
    rename_i it
    split at h
    · rename_i p t hx hh
      split at h
      · rename_i kt et sh by_ ht
        split at h
        · rename_i kd sh' b' ie htk hte
          obtain ⟨ad, rfl, h⟩ := onP_elim h
          obtain ⟨h0, m, since, seen, st, hi, es, hm, e, hs, he, hu, y, hy, hk⟩ := h
          refine wp_value ?_ (fin _ _ (by first | exact ⟨rfl, rfl, rfl⟩ | exact Wsame.storeAll _ _ _ _ | exact Wsame.storeO _ _ _ _) hk)
          simp only [execOp]
          rw [hr.opd hx (fun s e => hp s (by simp [e])), ← hy]
          exact run_v (run_entry h0 hi hm hs he hu)
        · exact h.elim
      · exact h.elim
    · exact h.elim
  case call c =>
    obtain ⟨callee, args, argTypes⟩ := c
    have arg : ∀ {l}, opds E args.toList = some l → args.map a.eval = l.toArray := by
      intro l hl
      rw [← hr.opds args.toList _ hl (fun s e => hp s (by unfold Call.operands; rw [Array.toList_append]; exact List.mem_append_right _ e))]; apply Array.ext'; simp
    cases callee with
    | invoke f n => simp only [] at h
    | value f =>
      simp only [] at h
      split at h
      · rename_i g fs cs l hf hl
        split at h
        · rename_i rs hrs
          unfold Oper.wp
          have : (execOp a.eval ⟨dst, .call ⟨.value f, args, argTypes⟩, type, pos, after, guard⟩).run P w = .ok (.enter g (fs.toList ++ l ++ cs.toList).toArray) w := by
            simp only [execOp, resolve]
            rw [arg hl, hr.opd hf (fun s e => hp s (by simp [Call.operands, e]))]
            simp only [Deferred.ofValue]
            rw [bind_ok (run_pure P _ w)]
            simp only [invoke]
            rw [hT.fn _ _ hrs]
            congr 2
            apply Array.ext'; simp
          rw [this]
          refine Calls.mono h ?_
          rintro e w' ⟨hs, x, rfl, hk⟩
          exact fin _ _ hs hk
        · exact h.elim
      · exact h.elim
    | builtin b =>
      have gen : ∀ {l}, opds E args.toList = some l → ∀ w, (execOp a.eval ⟨dst, .call ⟨.builtin b, args, argTypes⟩, type, pos, after, guard⟩).run P w = (builtin b argTypes type (args.map fun | .const _ => true | _ => false) l.toArray).run P w := by
        intro l hl w
        simp only [execOp, resolve]
        rw [arg hl]
        rw [bind_ok (run_pure P _ w)]
        simp only [invoke]
        rfl
      cases b <;> simp only [] at h <;> (try (exact h.elim))
      case append =>
        split at h
        · rename_i ad n c bd m d t t' hl hat
          have h0 : argTypes[0]? = some t := by
            have : argTypes.toList[0]? = some t := by rw [hat]; rfl
            simpa using this
          have h1 : argTypes[1]? = some t' := by
            have : argTypes.toList[1]? = some t' := by rw [hat]; rfl
            simpa using this
          split at h
          · rename_i e sh b e' sh' b' ht ht'
            split at h
            · rename_i ie he
              obtain ⟨news, hn, hone, hb, hb0, hfits, hgrows⟩ := h
              by_cases hle : n + m ≤ c
              · obtain ⟨hst, hk⟩ := hfits hle
                refine wp_value ?_ (fin _ _ (by first | exact ⟨rfl, rfl, rfl⟩ | exact Wsame.storeAll _ _ _ _ | exact Wsame.storeO _ _ _ _) hk)
                rw [gen hl]
                exact run_v (run_append_fits (hT.ty _ _ ht) (hT.ty _ _ ht') (hT.ty _ _ he) hn hone hb hb0 hle hst argTypes h0 h1 type)
              · obtain ⟨hcap, hby, olds, hol, ho, ha0, hk⟩ := hgrows (by omega)
                obtain ⟨cap, hcle, hrun⟩ := run_append_grows (hT.ty _ _ ht) (hT.ty _ _ ht') (hT.ty _ _ he) hn hb hb0 (by omega) hcap hby hol ho ha0 argTypes h0 h1 type
                refine wp_value ?_ (fin _ _ (by first | exact ⟨rfl, rfl, rfl⟩ | exact Wsame.storeAll _ _ _ _ | exact Wsame.storeO _ _ _ _) (hk cap hcle))
                rw [gen hl]
                exact run_v hrun
            · exact h.elim
          · exact h.elim
        · rename_i ad n c m t t' hl hat
          have h0 : argTypes[0]? = some t := by
            have : argTypes.toList[0]? = some t := by rw [hat]; rfl
            simpa using this
          have h1 : argTypes[1]? = some t' := by
            have : argTypes.toList[1]? = some t' := by rw [hat]; rfl
            simpa using this
          split at h
          · rename_i e sh b q sh' b' ht ht'
            split at h
            · rename_i ie he
              obtain ⟨hm0, hm48, hmb, hn48, hlt, hcap, hby, olds, hol, ho, ha0, hk⟩ := h
              obtain ⟨m, rfl⟩ := Int.eq_ofNat_of_zero_le hm0
              simp only [Int.toNat_natCast] at hlt hcap hk
              obtain ⟨cap, hcle, hrun⟩ := run_append_zeros (hT.ty _ _ ht) (hT.ty _ _ ht') (hT.ty _ _ he) (by omega) (by have := hmb; omega) hn48 hlt hcap hby hol ho ha0 argTypes h0 h1 type
              refine wp_value ?_ (fin _ _ (by first | exact ⟨rfl, rfl, rfl⟩ | exact Wsame.storeAll _ _ _ _ | exact Wsame.storeO _ _ _ _) (hk cap hcle))
              rw [gen hl]
              exact run_v hrun
            · exact h.elim
          · exact h.elim
        · exact h.elim
      case copy =>
        split at h
        · rename_i ad n c bd m d t ts hl hat
          have h0 : argTypes[0]? = some t := by
            have : argTypes.toList[0]? = some t := by rw [hat]; rfl
            simpa using this
          split at h
          · rename_i e sh b ht
            split at h
            · rename_i ie he
              obtain ⟨news, hn, hone, hb, hb0, hst, hk⟩ := h
              refine wp_value ?_ (fin _ _ (by first | exact ⟨rfl, rfl, rfl⟩ | exact Wsame.storeAll _ _ _ _ | exact Wsame.storeO _ _ _ _) hk)
              rw [gen hl]
              exact run_v (run_copy (hT.ty _ _ ht) (hT.ty _ _ he) hn hone hb hb0 hst argTypes h0 type)
            · exact h.elim
          · exact h.elim
        · exact h.elim
      case delete =>
        split at h
        · rename_i r kd k t ts hl hat
          have h0 : argTypes[0]? = some t := by
            have : argTypes.toList[0]? = some t := by rw [hat]; rfl
            simpa using this
          split at h
          · rename_i kt e sh b ht
            split at h
            · rename_i kd' sh' b' htk
              obtain ⟨hkd, h⟩ := h
              cases r with
              | none =>
                simp only [onM] at h
                refine wp_value ?_ (fin _ _ (by first | exact ⟨rfl, rfl, rfl⟩ | exact Wsame.storeAll _ _ _ _ | exact Wsame.storeO _ _ _ _) h)
                rw [gen hl]
                refine run_v ?_
                have hu : P.underlying t = some (.map kt e) := (hT.ty _ _ ht).und
                have huk : P.underlying kt = some (.int kd') := (hT.ty _ _ htk).und
                unfold Builtin.delete_
                simp only [h0, List.getElem?_toArray, List.getElem?_cons_zero, List.getElem?_cons_succ]
                rw [bind_ok (run_underlying hu w)]
                simp only []
                rw [bind_ok (run_checkKey huk _ k w)]; rfl
              | some r =>
                simp only [onM] at h
                obtain ⟨es, clock, hes, hk'⟩ := h
                refine wp_value ?_ (fin _ _ (by first | exact ⟨rfl, rfl, rfl⟩ | exact Wsame.storeAll _ _ _ _ | exact Wsame.storeO _ _ _ _) hk')
                rw [gen hl]
                exact run_v (run_delete (hT.ty _ _ ht) (hT.ty _ _ htk) hes k argTypes h0 type)
            · exact h.elim
          · exact h.elim
        · exact h.elim
end
end Go.Vc
