/- Tables of types and functions, checked by computation. -/
import Derived.Test.YtbolgpjcmchfoaaGreatVh
namespace Go.Vc
open Go
inductive Tr (α : Type) where
  | leaf
  | node (l : Tr α) (k : Nat) (v : α) (r : Tr α)
def Tr.find {α : Type} : Tr α → Nat → Option α
  | .leaf, _ => none
  | .node l k v r, t => match Nat.beq t k with
    | true => some v
    | false => match Nat.blt t k with
      | true => l.find t
      | false => r.find t
def Tr.all {α : Type} (p : Nat → α → Bool) : Tr α → Bool
  | .leaf => true
  | .node l k v r => p k v && (l.all p && r.all p)
theorem Tr.all_find {α : Type} {p : Nat → α → Bool} : ∀ {t : Tr α} {k : Nat} {v : α}, t.all p = true → t.find k = some v → p k v = true
  | .leaf, _, _, _, h => by simp [Tr.find] at h
  | .node l k' v' r, k, v, ha, h => by
    simp only [Tr.all, Bool.and_eq_true] at ha
    simp only [Tr.find] at h
    cases hb : Nat.beq k k' with
    | true =>
      rw [hb] at h
      simp only [Option.some.injEq] at h
      subst h
      rw [Nat.eq_of_beq_eq_true hb]; exact ha.1
    | false =>
      rw [hb] at h
      simp only [] at h
      split at h
      · exact Tr.all_find ha.2.1 h
      · exact Tr.all_find ha.2.2 h
def kindB (k k' : IntKind) : Bool := match decEq k k' with | .isTrue _ => true | .isFalse _ => false
theorem kindB_eq {k k' : IntKind} (h : kindB k k' = true) : k = k' := by
  unfold kindB at h
  split at h
  · assumption
  · cases h
def cellB : Value → Sh → Bool
  | .int k (.ofNat 0), .int k' => kindB k k'
  | .bool false, .bool => true
  | .pointer none, .ptr => true
  | .slice none 0 0, .slice => true
  | .map none, .map => true
  | .string s, .str => match s.data.toList with
    | [] => true
    | _ => false
  | .nilFunc, .func => true
  | .nilIface, .iface => true
  | _, _ => false
theorem cellB_eq {v : Value} {s : Sh} (h : cellB v s = true) : v = s.zero := by
  unfold cellB at h
  split at h <;> first
    | rfl
    | (rw [kindB_eq h]; rfl)
    | (rename_i s; split at h
       · rename_i hs
         obtain ⟨⟨d⟩⟩ := s
         simp only at hs
         subst hs; rfl
       · cases h)
    | cases h
def cellsB : List Value → List Sh → Bool
  | [], [] => true
  | v :: r, s :: l => cellB v s && cellsB r l
  | _, _ => false
theorem cellsB_eq : ∀ {vs : List Value} {l : List Sh}, cellsB vs l = true → vs = l.map Sh.zero
  | [], [], _ => rfl
  | v :: r, s :: l, h => by
    simp only [cellsB, Bool.and_eq_true] at h
    rw [cellB_eq h.1, cellsB_eq h.2]; rfl
  | [], _ :: _, h => by simp [cellsB] at h
  | _ :: _, [], h => by simp [cellsB] at h
def zeroB (v : Value) (i : TInfo) : Bool :=
  match i.kind with
  | .struct _ => match v with
    | .agg cs => cellsB cs.toList i.sh
    | _ => false
  | .arr _ _ => match v with
    | .agg cs => cellsB cs.toList i.sh
    | _ => false
  | _ => match i.sh with
    | [s] => cellB v s
    | _ => false
def pairsB : List (Nat × Nat) → List (Nat × Nat) → Bool
  | [], [] => true
  | (a, b) :: r, (c, d) :: l => Nat.beq a c && Nat.beq b d && pairsB r l
  | _, _ => false
theorem pairsB_eq : ∀ {a b : List (Nat × Nat)}, pairsB a b = true → a = b
  | [], [], _ => rfl
  | (a, b) :: r, (c, d) :: l, h => by
    simp only [pairsB, Bool.and_eq_true] at h
    rw [Nat.eq_of_beq_eq_true h.1.1, Nat.eq_of_beq_eq_true h.1.2, pairsB_eq h.2]
  | [], _ :: _, h => by simp [pairsB] at h
  | _ :: _, [], h => by simp [pairsB] at h
def undB (P : Program) (t : Nat) (k : Kind) : Bool :=
  match P.underlying t, k with
  | some (.int k), .int k' => kindB k k'
  | some .bool, .bool => true
  | some .string, .str => true
  | some (.pointer _), .ptr => true
  | some (.slice e), .slice e' => Nat.beq e e'
  | some (.map a b), .map c d => Nat.beq a c && Nat.beq b d
  | some (.struct fl), .struct fs => pairsB (fl.toList.map fun f => (f.offset, P.cellsOf f.type)) fs && fl.toList.all fun f => (P.info? f.type).isSome
  | some (.array n e), .arr n' e' => Nat.beq n n' && Nat.beq e e'
  | some (.func _ _ _), .func => true
  | some (.interface _), .iface => true
  | _, _ => false
def tyB (P : Program) (t : Nat) (i : TInfo) : Bool :=
  undB P t i.kind && match P.info? t with
    | some ti => Nat.beq ti.size i.sh.length && Nat.beq ti.bytes i.bytes && (match ti.zero with
      | some z => zeroB z i
      | none => false)
    | none => false
theorem tyB_ok {P : Program} {t : Nat} {i : TInfo} (h : tyB P t i = true) : TyOk P t i := by
  unfold tyB at h
  rw [Bool.and_eq_true] at h
  obtain ⟨hu, h⟩ := h
  cases hi : P.info? t with
  | none => rw [hi] at h; cases h
  | some ti =>
    rw [hi] at h
    simp only [Bool.and_eq_true] at h
    obtain ⟨⟨hs, hb⟩, hz⟩ := h
    cases hzz : ti.zero with
    | none => rw [hzz] at hz; cases hz
    | some z =>
      rw [hzz] at hz
      simp only [] at hz
      refine ⟨?_, ⟨ti, hi, Nat.eq_of_beq_eq_true hs, Nat.eq_of_beq_eq_true hb, ?_⟩, ?_⟩
      · unfold undB at hu
        cases hd : P.underlying t with
        | none => rw [hd] at hu; cases i.kind <;> cases hu
        | some d =>
          rw [hd] at hu
          cases hk : i.kind <;> rw [hk] at hu <;> cases d <;> (try (cases hu; done)) <;> simp only [undOk, hd]
          · rw [kindB_eq hu]
          · exact ⟨_, rfl⟩
          · rw [Nat.eq_of_beq_eq_true hu]
          · rw [Bool.and_eq_true] at hu; rw [Nat.eq_of_beq_eq_true hu.1, Nat.eq_of_beq_eq_true hu.2]
          · rw [Bool.and_eq_true] at hu
            exact ⟨_, rfl, pairsB_eq hu.1, fun f hf => by have := hu.2; rw [List.all_eq_true] at this; exact this f hf⟩
          · rw [Bool.and_eq_true] at hu; rw [Nat.eq_of_beq_eq_true hu.1, Nat.eq_of_beq_eq_true hu.2]
          · exact ⟨_, _, _, rfl⟩
          · exact ⟨_, rfl⟩
      · rw [hzz]
        congr 1
        unfold zeroB at hz
        unfold TInfo.zero TInfo.zcells
        split at hz <;> rename_i hk <;> simp only [hk]
        · split at hz
          · rw [← cellsB_eq hz]
          · cases hz
        · split at hz
          · rw [← cellsB_eq hz]
          · cases hz
        · split at hz
          · rename_i s hsh
            rw [cellB_eq hz]
            cases hkk : i.kind <;> simp_all
          · cases hz
      · unfold zeroB at hz
        cases hk : i.kind <;> simp only [hk] at hz ⊢ <;>
        · split at hz
          · rename_i s hsh; exact ⟨s, hsh⟩
          · cases hz
def fnB (P : Program) (f : Nat) : Bool :=
  match P.funcs[f]? with
  | some fn => !(fn.name == "runtime.NumGoroutine") && fn.body.isSome
  | none => false
theorem fnB_ok {P : Program} {f : Nat} (h : fnB P f = true) (args : Array Value) (w : World) : (callFunc f args).run P w = .ok (.enter f args) w := by
  unfold fnB at h
  cases hf : P.funcs[f]? with
  | none => rw [hf] at h; cases h
  | some fn =>
    rw [hf] at h
    simp only [Bool.and_eq_true, Bool.not_eq_true'] at h
    obtain ⟨h1, h2⟩ := h
    show (match P.funcs[f]? with
      | none => stuck "call: no such function"
      | some fn => _ : Sem Next).run P w = _
    rw [hf]
    simp only [h1, Bool.false_eq_true, if_false]
    cases hb : fn.body with
    | none => rw [hb] at h2; cases h2
    | some c => rfl
def mkTab (ty : Tr TInfo) (fn : Tr (List Ty)) : Tab := ⟨ty.find, fn.find⟩
theorem tab_of {P : Program} {ty : Tr TInfo} {fn : Tr (List Ty)} (h1 : ty.all (tyB P) = true) (h2 : fn.all (fun f _ => fnB P f) = true) (h3 : P.follows .mixedOrders = true) : TabOk P (mkTab ty fn) :=
  ⟨fun _ _ h => tyB_ok (Tr.all_find h1 h), fun _ _ h args w => fnB_ok (Tr.all_find (p := fun f _ => fnB P f) h2 h) args w, h3⟩
end Go.Vc
