/- The verification condition is sound: the theorem on the operations that only look. -/
import Derived.Test.YtbolgpjcmchfoaaGreatVo
namespace Go.Vc
open Go
section
variable {P : Program} {T : Tab}
theorem onV_elim {o : Option Value} {k : Value → Prop} (h : onV o k) : ∃ v, o = some v ∧ k v := by
  cases o with
  | none => exact h.elim
  | some v => exact ⟨v, rfl, h⟩
theorem onP_elim {o : Option Addr} {k : Addr → Prop} (h : onP o k) : ∃ v, o = some v ∧ k v := by
  cases o with
  | none => exact h.elim
  | some v => exact ⟨v, rfl, h⟩
theorem onO_elim {α : Type} {o : Option α} {k : α → Prop} (h : onO o k) : ∃ v, o = some v ∧ k v := by
  cases o with
  | none => exact h.elim
  | some v => exact ⟨v, rfl, h⟩
theorem run_bytesToString (a : Option Addr) (n c : Nat) (l : List UInt8) (hl : l.length = n) (w : World) (h : ∀ ad, a = some ad → cellsAt w ad 0 (bytesOf l)) (h0 : a = none → l = []) :
    (Conv.bytesToString (.slice a n c)).run P w = .ok (.string ⟨l.toArray⟩) w := by
  cases a with
  | none => rw [h0 rfl]; rfl
  | some ad =>
    have hc := h ad rfl
    unfold Conv.bytesToString
    simp only []
    have hll : (bytesOf l).length = n := by simp [bytesOf, hl]
    rw [bind_ok (run_loadCells hll hc)]
    have key : ∀ (f : Value → ByteArray → Sem (ForInStep ByteArray)), (∀ (b : UInt8) (s : ByteArray), (f (.int .u8 b.toNat) s).run P w = .ok (ForInStep.yield (s.push b)) w) →
        ∀ (l : List UInt8) (acc : ByteArray), (forIn (m := Sem) (bytesOf l).toArray acc f).run P w = .ok ⟨acc.data ++ l.toArray⟩ w := by
      intro f hf l
      induction l with
      | nil => intro acc; simp [bytesOf]
      | cons b r ih =>
        intro acc
        have := ih (acc.push b)
        simp only [bytesOf, List.map_cons, List.forIn_toArray] at this ⊢
        rw [List.forIn_cons, bind_ok (hf b acc)]
        simp only []
        rw [this]
        congr 2
        apply Array.ext'
        simp [ByteArray.push]
    rw [bind_ok (key _ (fun b s => by simp only [Int.toNat_natCast, UInt8.ofNat_toNat]; rfl) l ByteArray.empty)]
    simp [ByteArray.empty, ByteArray.emptyWithCapacity]; rfl
section
variable {N : Nat} {pend : Nat → Prop} {E : Env} {a : Act} (hr : Rep N pend E a) {x y : Operand} (hx : ∀ s, x = .tmp s → ¬ pend s) (hy : ∀ s, y = .tmp s → ¬ pend s)
  {dst : Option Tmp} {t yt type : TypeId} {pos : String} {after : Array Edge} {guard : Option (Nat × Bool)}
include hr hx hy
theorem exec_bin {op : BinOp} {u v r : Value} (h1 : opd E x = some u) (h2 : opd E y = some v) (hs : sameKind u v = true) (hb : bin op u v = some r) (w : World) :
    (execOp a.eval ⟨dst, .binOp op t x y yt, type, pos, after, guard⟩).run P w = .ok (.value r) w := by
  simp only [execOp]
  rw [hr.opd h1 hx, hr.opd h2 hy]
  refine run_v ?_
  rw [bind_ok (run_eqGuard (by rintro cs ds ⟨rfl, rfl⟩; simp [sameKind] at hs) (by rintro ⟨rfl, rfl⟩; simp [sameKind] at hs) w)]
  exact run_bin hs hb w
theorem exec_eql (hT : TabOk P T) {u v : Value} {i : TInfo} {r : Bool} (h1 : opd E x = some u) (h2 : opd E y = some v) (ht : T.ty t = some i) (hb : eqv i.kind u v = some r) (w : World) :
    (execOp a.eval ⟨dst, .binOp .eql t x y yt, type, pos, after, guard⟩).run P w = .ok (.value (.bool r)) w := by
  simp only [execOp]
  rw [hr.opd h1 hx, hr.opd h2 hy]
  refine run_v ?_
  rw [bind_ok (run_eqGuard (eqv_shape hb).1 (eqv_shape hb).2 w)]
  exact binOp_eql (hT.ty _ _ ht) hb w
theorem exec_neq (hT : TabOk P T) {u v : Value} {i : TInfo} {r : Bool} (h1 : opd E x = some u) (h2 : opd E y = some v) (ht : T.ty t = some i) (hb : eqv i.kind u v = some r) (w : World) :
    (execOp a.eval ⟨dst, .binOp .neq t x y yt, type, pos, after, guard⟩).run P w = .ok (.value (.bool (!r))) w := by
  simp only [execOp]
  rw [hr.opd h1 hx, hr.opd h2 hy]
  refine run_v ?_
  rw [bind_ok (run_eqGuard (eqv_shape hb).1 (eqv_shape hb).2 w)]
  exact binOp_neq (hT.ty _ _ ht) hb w
theorem exec_div {op : BinOp} {k k' : IntKind} {i j : Int} {r : Value} (h1 : opd E x = some (.int k i)) (h2 : opd E y = some (.int k' j)) (hs : sameKind (.int k 0) (.int k' 0) = true) (hj : j ≠ 0)
    (ho : op = .rem ∧ r = .int k (i.tmod j) ∨ op = .quo ∧ r = .int k (k.wrap (i.tdiv j))) (w : World) :
    (execOp a.eval ⟨dst, .binOp op t x y yt, type, pos, after, guard⟩).run P w = .ok (.value r) w := by
  have hk := kind_eq hs
  subst hk
  simp only [execOp]
  rw [hr.opd h1 hx, hr.opd h2 hy]
  refine run_v ?_
  rw [bind_ok (run_eqGuard (by rintro cs ds ⟨h, _⟩; cases h) (by rintro ⟨h, _⟩; cases h) w)]
  rcases ho with ⟨rfl, rfl⟩ | ⟨rfl, rfl⟩ <;> simp only [binOp, ne_eq, not_true_eq_false, if_false, Op.intDiv, hj] <;> rfl
end
theorem vcS_sound {M : (World → Prop) → Prop} {S : World → Prop} (hT : TabOk P T) (hM : ∀ φ, M φ → ∀ w, S w → φ w) {N : Nat} {pend : Nat → Prop} {E : Env} {a : Act} (hr : Rep N pend E a) {o : Oper} {K : Env → Prop}
    (hp : ∀ s, Operand.tmp s ∈ o.op.operands.toList → ¬ pend s) (h : vcS M T o E K) :
    ∃ v, (∀ w, S w → (execOp a.eval o).run P w = .ok (.value v) w) ∧ K (putE o.dst v E) := by
  obtain ⟨dst, op, type, pos, after, guard⟩ := o
  cases op <;> simp only [vcS] at h <;> simp only [Op.operands] at hp <;> (try (exact h.elim))
  case move x =>
    obtain ⟨v, hv, hk⟩ := onV_elim h
    exact ⟨v, fun w _ => by simp only [execOp]; rw [hr.opd hv (fun s e => hp s (by simp [e]))]; rfl, hk⟩
  case assign x =>
    obtain ⟨v, hv, hk⟩ := onV_elim h
    exact ⟨v, fun w _ => by simp only [execOp]; rw [hr.opd hv (fun s e => hp s (by simp [e]))]; rfl, hk⟩
  case pick c x y =>
    split at h
    · rename_i b hc
      have ec := hr.opd hc (fun s e => hp s (by simp [e]))
      cases b
      · obtain ⟨v, hv, hk⟩ := onV_elim h
        exact ⟨v, fun w _ => by simp only [execOp]; rw [ec, hr.opd hv (fun s e => hp s (by simp [e]))]; rfl, hk⟩
      · obtain ⟨v, hv, hk⟩ := onV_elim h
        exact ⟨v, fun w _ => by simp only [execOp]; rw [ec, hr.opd hv (fun s e => hp s (by simp [e]))]; rfl, hk⟩
    · exact h.elim
  case load t x =>
    split at h
    · rename_i p hx
      obtain ⟨ad, rfl, h⟩ := onP_elim h
      split at h
      · rename_i i ht
        obtain ⟨y, hy, hk⟩ := h
        refine ⟨_, fun w hw => ?_, hk⟩
        simp only [execOp]
        rw [hr.opd hx (fun s e => hp s (by simp [e]))]
        refine run_v ?_
        unfold Instr.loadAt
        rw [bind_ok (show (Instr.sureAddr (.pointer (some ad))).run P w = .ok ad w from rfl)]
        exact run_loadVar (hT.ty _ _ ht) y (hM _ hy w hw)
      · exact h.elim
    · exact h.elim
  case nilCheck x =>
    split at h
    · rename_i p hx
      obtain ⟨ad, rfl, hk⟩ := onP_elim h
      exact ⟨_, fun w _ => by simp only [execOp]; rw [hr.opd hx (fun s e => hp s (by simp [e]))]; rfl, hk⟩
    · rename_i f fs cs hx
      exact ⟨_, fun w _ => by simp only [execOp]; rw [hr.opd hx (fun s e => hp s (by simp [e]))]; rfl, h⟩
    · exact h.elim
  case binOp op t x y yt =>
    have px : ∀ s, x = .tmp s → ¬ pend s := fun s e => hp s (by simp [e])
    have py : ∀ s, y = .tmp s → ¬ pend s := fun s e => hp s (by simp [e])
    clear hp
    cases op
    case rem =>
      simp only [] at h
      split at h
      · rename_i k i k' j h1 h2
        obtain ⟨hs, hj, hk⟩ := h
        exact ⟨_, fun w _ => exec_div hr px py h1 h2 hs hj (Or.inl ⟨rfl, rfl⟩) w, hk⟩
      · exact h.elim
    case quo =>
      simp only [] at h
      split at h
      · rename_i k i k' j h1 h2
        obtain ⟨hs, hj, hk⟩ := h
        exact ⟨_, fun w _ => exec_div hr px py h1 h2 hs hj (Or.inr ⟨rfl, rfl⟩) w, hk⟩
      · exact h.elim
    case eql =>
      simp only [] at h
      split at h
      · rename_i u v h1 h2
        split at h
        · rename_i hs
          obtain ⟨r, hb, hk⟩ := onV_elim h
          exact ⟨r, fun w _ => exec_bin hr px py h1 h2 hs hb w, hk⟩
        · split at h
          · rename_i i ht _
            split at h
            · rename_i r hb
              exact ⟨_, fun w _ => exec_eql hr px py hT h1 h2 ht hb w, h⟩
            · exact h.elim
          · rename_i e; cases e
          · exact h.elim
      · exact h.elim
    case neq =>
      simp only [] at h
      split at h
      · rename_i u v h1 h2
        split at h
        · rename_i hs
          obtain ⟨r, hb, hk⟩ := onV_elim h
          exact ⟨r, fun w _ => exec_bin hr px py h1 h2 hs hb w, hk⟩
        · split at h
          · rename_i e; cases e
          · rename_i i ht _
            split at h
            · rename_i r hb
              exact ⟨_, fun w _ => exec_neq hr px py hT h1 h2 ht hb w, h⟩
            · exact h.elim
          · exact h.elim
      · exact h.elim
    all_goals
      simp only [] at h
      split at h
      · rename_i u v h1 h2
        split at h
        · rename_i hs
          obtain ⟨r, hb, hk⟩ := onV_elim h
          exact ⟨r, fun w _ => exec_bin hr px py h1 h2 hs hb w, hk⟩
        · split at h
          · rename_i e; cases e
          · rename_i e; cases e
          · exact h.elim
      · exact h.elim
  case unOp op t x =>
    cases op <;> simp only [] at h <;> (try (exact h.elim))
    · split at h
      · rename_i k b hx
        refine ⟨_, fun w _ => ?_, h⟩
        simp only [execOp]
        rw [hr.opd hx (fun s e => hp s (by simp [e]))]
        exact run_v rfl
      · exact h.elim
    · split at h
      · rename_i b hx
        refine ⟨_, fun w _ => ?_, h⟩
        simp only [execOp]
        rw [hr.opd hx (fun s e => hp s (by simp [e]))]
        exact run_v rfl
      · exact h.elim
  case convert s d x =>
    split at h
    · rename_i k n k0 sh0 b0 k1 sh1 b1 hx hs hd
      refine ⟨_, fun w _ => ?_, h⟩
      simp only [execOp]
      rw [hr.opd hx (fun s e => hp s (by simp [e]))]
      refine run_v ?_
      have us : P.underlying s = some (.int k0) := (hT.ty _ _ hs).und
      have ud : P.underlying d = some (.int k1) := (hT.ty _ _ hd).und
      unfold convert
      rw [bind_ok (run_underlying us w), bind_ok (run_underlying ud w)]; rfl
    · rename_i ad n c e sh0 b0 sh1 b1 hx hs hd
      split at h
      · rename_i sh2 b2 he
        obtain ⟨l, hl, hc, h0, hk⟩ := h
        refine ⟨_, fun w hw => ?_, hk⟩
        simp only [execOp]
        rw [hr.opd hx (fun s e => hp s (by simp [e]))]
        refine run_v ?_
        have us : P.underlying s = some (.slice e) := (hT.ty _ _ hs).und
        have ud : P.underlying d = some .string := (hT.ty _ _ hd).und
        have ue : P.underlying e = some (.int .u8) := (hT.ty _ _ he).und
        unfold convert
        rw [bind_ok (run_underlying us w), bind_ok (run_underlying ud w)]
        cases ad with
        | none =>
          simp only []
          rw [bind_ok (run_underlying ue w)]
          exact run_bytesToString _ _ _ _ hl _ (fun ad e => hM _ (hc ad e) w hw) h0
        | some ad =>
          simp only []
          rw [bind_ok (run_underlying ue w)]
          exact run_bytesToString _ _ _ _ hl _ (fun ad e => hM _ (hc ad e) w hw) h0
      · exact h.elim
    · exact h.elim
  case makeFunc fn fs cs =>
    split at h
    · rename_i u v hu hv
      refine ⟨_, fun w _ => ?_, h⟩
      simp only [execOp]
      have e1 : fs.map a.eval = u.toArray := by
        rw [← hr.opds fs.toList _ hu (fun s e => hp s (by rw [Array.toList_append]; exact List.mem_append_left _ e))]; apply Array.ext'; simp
      have e2 : cs.map a.eval = v.toArray := by
        rw [← hr.opds cs.toList _ hv (fun s e => hp s (by rw [Array.toList_append]; exact List.mem_append_right _ e))]; apply Array.ext'; simp
      rw [e1, e2]
      exact run_v rfl
    · exact h.elim
  case slice t x lo hi mx =>
    cases mx with
    | some m => simp only [] at h
    | none =>
      simp only [] at h
      split at h
      · rename_i ad n c l r hx hl hh
        split at h
        · rename_i e sh b ht
          split at h
          · rename_i ie he
            split at h
            · rename_i i j hi' hj'
              obtain ⟨h0, h1, h2, hk⟩ := h
              refine ⟨_, fun w _ => ?_, hk⟩
              simp only [execOp]
              have el : lo.map a.eval = l := by
                cases lo with
                | none => simpa [opdO] using hl
                | some z =>
                  simp only [opdO] at hl
                  cases hz : opd E z with
                  | none => simp [hz] at hl
                  | some q => simp only [hz, Option.some.injEq] at hl; rw [← hl, Option.map_some, hr.opd hz (fun s e => hp s (by simp [e]))]
              have eh : hi.map a.eval = r := by
                cases hi with
                | none => simpa [opdO] using hh
                | some z =>
                  simp only [opdO] at hh
                  cases hz : opd E z with
                  | none => simp [hz] at hh
                  | some q => simp only [hz, Option.some.injEq] at hh; rw [← hh, Option.map_some, hr.opd hz (fun s e => hp s (by simp [e]))]
              rw [hr.opd hx (fun s e => hp s (by simp [e])), el, eh]
              exact run_v (run_slice (hT.ty _ _ ht) (hT.ty _ _ he) hi' hj' h0 h1 h2 w)
            · exact h.elim
          · exact h.elim
        · exact h.elim
      · exact h.elim
  case fieldAddr s x f =>
    split at h
    · rename_i p hx
      obtain ⟨ad, rfl, h⟩ := onP_elim h
      split at h
      · rename_i fs sh b ht
        split at h
        · rename_i off sz hf
          refine ⟨_, fun w _ => ?_, h⟩
          simp only [execOp]
          rw [hr.opd hx (fun s e => hp s (by simp [e]))]
          exact run_v (run_fieldAt (hT.ty _ _ ht) hf ad w)
        · exact h.elim
      · exact h.elim
    · exact h.elim
  case indexAddr t x ix =>
    split at h
    · rename_i ad n c k i hx hi
      split at h
      · rename_i e sh b ht
        split at h
        · rename_i ie he
          obtain ⟨h0, h1, h⟩ := h
          obtain ⟨ad, rfl, hk⟩ := onP_elim h
          refine ⟨_, fun w _ => ?_, hk⟩
          simp only [execOp]
          rw [hr.opd hx (fun s e => hp s (by simp [e])), hr.opd hi (fun s e => hp s (by simp [e]))]
          exact run_v (run_indexAt (hT.ty _ _ ht) (hT.ty _ _ he) h0 h1 w)
        · exact h.elim
      · exact h.elim
    · exact h.elim
  case index t x ix =>
    split at h
    · rename_i cs k i hx hi
      split at h
      · rename_i n e sh b ht
        split at h
        · rename_i ie he
          split at h
          · rename_i s hs
            obtain ⟨h0, h1, y, hy, hk⟩ := h
            refine ⟨_, fun w _ => ?_, hk⟩
            simp only [execOp]
            rw [hr.opd hx (fun s e => hp s (by simp [e])), hr.opd hi (fun s e => hp s (by simp [e]))]
            exact run_v (run_index (hT.ty _ _ ht) (hT.ty _ _ he) hs h0 h1 y hy w)
          · exact h.elim
        · exact h.elim
      · exact h.elim
    · exact h.elim
  case extract x i =>
    split at h
    · rename_i vs hx
      obtain ⟨v, hv, hk⟩ := onV_elim h
      refine ⟨_, fun w _ => ?_, hk⟩
      simp only [execOp]
      rw [hr.opd hx (fun s e => hp s (by simp [e]))]
      refine run_v ?_
      simp only [Instr.extract, hv]; rfl
    · exact h.elim
  case build t ps =>
    have arg : ∀ {l}, parts E ps.toList = some l → (ps.map fun (i, x) => (i, a.eval x)) = l.toArray := by
      intro l hl
      rw [← hr.parts _ _ hl (fun s e => hp s (by simpa using e))]
      apply Array.ext'
      simp
    split at h
    · rename_i fs sh b ht
      split at h
      · rename_i l hl
        split at h
        · rename_i cs hc
          refine ⟨_, fun w _ => ?_, h⟩
          simp only [execOp]
          rw [arg hl]
          exact run_v (run_build_struct (hT.ty _ _ ht) hc w)
        · exact h.elim
      · exact h.elim
    · rename_i n e sh b ht
      split at h
      · rename_i ie he
        split at h
        · rename_i l hl
          split at h
          · rename_i cs hc
            refine ⟨_, fun w _ => ?_, h⟩
            simp only [execOp]
            rw [arg hl]
            exact run_v (run_build_arr (hT.ty _ _ ht) (hT.ty _ _ he) hc w)
          · exact h.elim
        · exact h.elim
      · exact h.elim
    · exact h.elim
  case lookup t m k ok =>
    split at h
    · rename_i r kd k' kt e sh b hm hk ht
      split at h
      · rename_i kd' sh' b' ie htk hte
        obtain ⟨hkd, h⟩ := h
        have gen : ∀ w, (execOp a.eval ⟨dst, .lookup t m k ok, type, pos, after, guard⟩).run P w = (do pure (Next.value (← Instr.lookup t (.map r) (.int kd k') ok)) : Sem Next).run P w := by
          intro w
          simp only [execOp]
          rw [hr.opd hm (fun s e => hp s (by simp [e])), hr.opd hk (fun s e => hp s (by simp [e]))]
        cases r with
        | none =>
          simp only [onM] at h
          exact ⟨_, fun w _ => by rw [gen]; exact run_v (run_lookup_none (hT.ty _ _ ht) (hT.ty _ _ htk) (hT.ty _ _ hte) k' ok w), h⟩
        | some r =>
          simp only [onM] at h
          obtain ⟨es, hes, y, hy, hk⟩ := h
          refine ⟨_, fun w hw => ?_, hk⟩
          obtain ⟨clock, hcl⟩ := hM _ hes w hw
          rw [gen]
          have := run_lookup (hT.ty _ _ ht) (hT.ty _ _ htk) (hT.ty _ _ hte) hcl k' ok
          cases hf : findE es k' with
          | none => rw [hf] at this hy; simp only [Option.getD_none] at hy; rw [← hy]; exact run_v this
          | some v => rw [hf] at this hy; simp only [Option.getD_some] at hy; rw [← hy]; exact run_v this
      · exact h.elim
    · exact h.elim
  case call c =>
    obtain ⟨callee, args, argTypes⟩ := c
    have arg : ∀ {l}, opds E args.toList = some l → args.map a.eval = l.toArray := by
      intro l hl
      rw [← hr.opds args.toList _ hl (fun s e => hp s (by unfold Call.operands; rw [Array.toList_append]; exact List.mem_append_right _ e))]; apply Array.ext'; simp
    cases callee with
    | value f => simp only [] at h
    | invoke f n => simp only [] at h
    | builtin b =>
      have gen : ∀ {l}, opds E args.toList = some l → ∀ w, (execOp a.eval ⟨dst, .call ⟨.builtin b, args, argTypes⟩, type, pos, after, guard⟩).run P w = (builtin b argTypes type (args.map fun | .const _ => true | _ => false) l.toArray).run P w := by
        intro l hl w
        simp only [execOp, resolve]
        rw [arg hl]
        rw [bind_ok (run_pure P _ w)]
        simp only [invoke]
        rfl
      cases b <;> simp only [] at h <;> (try (exact h.elim))
      case cap =>
        split at h
        · rename_i ad n c hl
          split at h
          · rename_i t r hat
            split at h
            · rename_i e sh b ht
              refine ⟨_, fun w _ => ?_, h⟩
              rw [gen hl]
              refine run_v ?_
              have ha : argTypes[0]? = some t := by
                have : argTypes.toList[0]? = some t := by rw [hat]; rfl
                simpa using this
              have hu : P.underlying t = some (.slice e) := (hT.ty _ _ ht).und
              unfold Builtin.cap_
              simp only [ha, List.getElem?_toArray, List.getElem?_cons_zero]
              first | (rw [bind_ok (run_underlying hu w)]; rfl) | rfl
            · exact h.elim
          · exact h.elim
        · exact h.elim
      case len =>
        split at h
        · rename_i ad n c hl
          split at h
          · rename_i t r hat
            split at h
            · rename_i e sh b ht
              refine ⟨_, fun w _ => ?_, h⟩
              rw [gen hl]
              refine run_v ?_
              have ha : argTypes[0]? = some t := by
                have : argTypes.toList[0]? = some t := by rw [hat]; rfl
                simpa using this
              have hu : P.underlying t = some (.slice e) := (hT.ty _ _ ht).und
              unfold Builtin.len_
              simp only [ha, List.getElem?_toArray, List.getElem?_cons_zero]
              rw [bind_ok (run_underlying hu w)]; rfl
            · exact h.elim
          · exact h.elim
        · rename_i s hl
          split at h
          · rename_i t r hat
            split at h
            · rename_i sh b ht
              refine ⟨_, fun w _ => ?_, h⟩
              rw [gen hl]
              refine run_v ?_
              have ha : argTypes[0]? = some t := by
                have : argTypes.toList[0]? = some t := by rw [hat]; rfl
                simpa using this
              have hu : P.underlying t = some .string := (hT.ty _ _ ht).und
              unfold Builtin.len_
              simp only [ha, List.getElem?_toArray, List.getElem?_cons_zero]
              rw [bind_ok (run_underlying hu w)]; rfl
            · exact h.elim
          · exact h.elim
        · rename_i r hl
          split at h
          · rename_i t rr hat
            split at h
            · rename_i kt e sh b ht
              split at h
              · rename_i kd sh' b' htk
                have ha : argTypes[0]? = some t := by
                  have : argTypes.toList[0]? = some t := by rw [hat]; rfl
                  simpa using this
                have hu : P.underlying t = some (.map kt e) := (hT.ty _ _ ht).und
                cases r with
                | none =>
                  simp only [onM] at h
                  refine ⟨_, fun w _ => ?_, h⟩
                  rw [gen hl]
                  refine run_v ?_
                  unfold Builtin.len_
                  simp only [ha, List.getElem?_toArray, List.getElem?_cons_zero]
                  rw [bind_ok (run_underlying hu w)]; rfl
                | some r =>
                  simp only [onM] at h
                  obtain ⟨es, hes, hk⟩ := h
                  refine ⟨_, fun w hw => ?_, hk⟩
                  obtain ⟨clock, hcl⟩ := hM _ hes w hw
                  rw [gen hl]
                  refine run_v ?_
                  unfold Builtin.len_
                  simp only [ha, List.getElem?_toArray, List.getElem?_cons_zero]
                  rw [bind_ok (run_underlying hu w)]
                  simp only []
                  rw [bind_ok (run_getMap hcl)]
                  simp [entries, goInt]
              · exact h.elim
            · exact h.elim
          · exact h.elim
        · exact h.elim
      case max =>
        split at h
        · rename_i u v hl
          obtain ⟨r, hb, hk⟩ := onV_elim h
          refine ⟨r, fun w _ => ?_, hk⟩
          rw [gen hl]
          refine run_v ?_
          cases u <;> cases v <;> simp only [max2, reduceCtorEq, Option.some.injEq] at hb
          subst hb; rfl
        · exact h.elim
      case min =>
        split at h
        · rename_i u v hl
          obtain ⟨r, hb, hk⟩ := onV_elim h
          refine ⟨r, fun w _ => ?_, hk⟩
          rw [gen hl]
          refine run_v ?_
          cases u <;> cases v <;> simp only [min2, reduceCtorEq, Option.some.injEq] at hb
          subst hb; rfl
        · exact h.elim
end
end Go.Vc
