/- The verification condition is sound: the theorem on the operations that make memory, write it, or call. -/
import Derived.Test.YtbolgpjcmchfoaaGreatVe
namespace Go.Vc
open Go
section
variable {P : Program} {T : Tab}
theorem wp_value {o : Oper} {a : Act} {w w' : World} {v : Value} {next : Act → World → Prop} {Q : Exit → Act → World → Prop} (h : (execOp a.eval o).run P w = .ok (.value v) w') (hn : next (a.put o.dst v) w') : o.wp P a w next Q := by
  unfold Oper.wp; rw [h]; exact hn
theorem wp_skipped {o : Oper} {a : Act} {w w' : World} {next : Act → World → Prop} {Q : Exit → Act → World → Prop} (h : (execOp a.eval o).run P w = .ok .skip w') (hn : next (a.put o.dst undef) w') : o.wp P a w next Q := by
  unfold Oper.wp; rw [h]; exact hn
theorem run_u {m : Sem Unit} {w w' : World} (h : m.run P w = .ok () w') : (do m; pure Next.skip : Sem Next).run P w = .ok .skip w' := by
  rw [bind_ok h]; rfl
theorem vcE_sound (hT : TabOk P T) {N : Nat} {pend : Nat → Prop} {E : Env} {a : Act} (hr : Rep N pend E a) {o : Oper} {w : World} {K : Env → World → Prop} {next : Act → World → Prop} {Q : Exit → Act → World → Prop}
    (hd : ∀ s, o.dst = some s → s < N)
    (hp : ∀ s, Operand.tmp s ∈ o.op.operands.toList → ¬ pend s) (h : vcE P T o E w K)
    (hK : ∀ E' v w', Rep N pend E' (a.put o.dst v) → K E' w' → (∀ s, get E' s = get (putE o.dst v E) s ∨ 1000000 ≤ s) → Wsame w w' → next (a.put o.dst v) w') : o.wp P a w next Q := by
  have fin : ∀ v w', Wsame w w' → K (putE o.dst v E) w' → next (a.put o.dst v) w' := fun v w' hs hk => hK _ v w' (hr.put hd v) hk (fun _ => Or.inl rfl) hs
  obtain ⟨dst, op, type, pos, after, guard⟩ := o
  cases op <;> simp only [vcE] at h <;> simp only [Op.operands] at hp <;> (try (exact h.elim))
  case alloc t =>
    split at h
    · rename_i i ht
      refine wp_value ?_ (fin _ _ (by first | exact ⟨rfl, rfl, rfl⟩ | exact Wsame.storeAll _ _ _ _ | exact Wsame.storeO _ _ _ _) h)
      simp only [execOp, Instr.alloc]
      have : (do pure (Value.pointer (some (← newVar t i.zero))) : Sem Value).run P w = .ok (.pointer (some ⟨w.heap.size, 0, none⟩)) (w.alloc (.cells i.zero.cells t)) := by
        rw [bind_ok (run_newVar t i.zero w)]; rfl
      refine run_v ?_
      rw [bind_ok (run_zeroValue (hT.ty _ _ ht) w)]
      exact this
    · exact h.elim
  case box t x =>
    split at h
    · rename_i v hx
      refine wp_value ?_ (fin _ _ (by first | exact ⟨rfl, rfl, rfl⟩ | exact Wsame.storeAll _ _ _ _ | exact Wsame.storeO _ _ _ _) h)
      simp only [execOp]
      rw [hr.opd hx (fun s e => hp s (by simp [e]))]
      refine run_v ?_
      unfold Instr.box
      rw [bind_ok (run_newVar t v w)]; rfl
    · exact h.elim
  case buildSlice t len ps =>
    split at h
    · rename_i e sh b ht
      split at h
      · rename_i ie he
        split at h
        · rename_i l hl hsm
          split at h
          · rename_i cs hc
            refine wp_value ?_ (fin _ _ (by first | exact ⟨rfl, rfl, rfl⟩ | exact Wsame.storeAll _ _ _ _ | exact Wsame.storeO _ _ _ _) h)
            simp only [execOp]
            have arg : (ps.map fun (i, x) => (i, a.eval x)) = l.toArray := by
              rw [← hr.parts _ _ hl (fun s e => hp s (by simpa using e))]
              apply Array.ext'
              simp
            rw [arg]
            refine run_v ?_
            have hu : P.underlying t = some (.slice e) := (hT.ty _ _ ht).und
            have oke := hT.ty _ _ he
            have hle : len * ie.sh.length ≤ 1000 := Nat.le_of_ble_eq_true hsm
            unfold Instr.buildSlice
            rw [bind_ok (run_underlying hu w)]
            simp only []
            rw [bind_ok (run_sizeOf oke w), if_neg (by omega)]
            have hcs : Instr.fill (fun i => some (i * ie.sh.length, ie.sh.length)) ((Array.range (len * ie.sh.length)).map fun i => (if len * ie.sh.length = 0 then #[] else ie.zcells.toArray)[i % (if len * ie.sh.length = 0 then (#[] : Array Value) else ie.zcells.toArray).size]!) l = some cs := by
              rw [← hc]
              unfold fillL
              congr 1
              by_cases hz : len * ie.sh.length = 0
              · have e1 : zrow ie.zcells len = [] := List.length_eq_zero_iff.1 (by rw [zrow_length, zcells_length]; exact hz)
                rw [e1, hz]; simp
              · rw [if_neg hz, ← zcells_length ie, range_zrow]
            by_cases hz : len * ie.sh.length = 0
            · rw [if_pos hz, bind_ok (run_pure P _ w)]
              rw [if_pos hz] at hcs
              simp only [hcs]
              rfl
            · rw [if_neg hz, bind_ok (run_zeroValue oke w), bind_ok (run_pure P _ w), zero_cells oke]
              rw [if_neg hz] at hcs
              simp only [hcs]
              rfl
          · exact h.elim
        · exact h.elim
      · exact h.elim
    · exact h.elim
  case store t x y =>
    split at h
    · rename_i p v hx hy
      obtain ⟨ad, rfl, h⟩ := onP_elim h
      split at h
      · rename_i i ht
        split at h
        · rename_i hsz
          obtain ⟨hs, h1, hk⟩ := h
          refine wp_skipped ?_ (fin _ _ (by first | exact ⟨rfl, rfl, rfl⟩ | exact Wsame.storeAll _ _ _ _ | exact Wsame.storeO _ _ _ _) hk)
          simp only [execOp]
          rw [hr.opd hx (fun s e => hp s (by simp [e])), hr.opd hy (fun s e => hp s (by simp [e]))]
          refine run_u ?_
          unfold Instr.storeAt
          rw [bind_ok (show (Instr.sureAddr (.pointer (some ad))).run P w = .ok ad w from rfl)]
          exact run_storeVar (hT.ty _ _ ht) (Nat.eq_of_beq_eq_true hsz) hs h1
        · exact h.elim
      · exact h.elim
    · exact h.elim
  case makeMap t r =>
    cases r with
    | some r => simp only [] at h
    | none =>
      simp only [] at h
      refine wp_value ?_ (fin _ _ (by first | exact ⟨rfl, rfl, rfl⟩ | exact Wsame.storeAll _ _ _ _ | exact Wsame.storeO _ _ _ _) h)
      simp only [execOp]
      exact run_v rfl
  case makeSlice t l c =>
    split at h
    · rename_i i j e sh b hl hc ht
      split at h
      · rename_i ie he
        obtain ⟨h0, h1, h2, h3, hk⟩ := h
        refine wp_value ?_ (fin _ _ (by first | exact ⟨rfl, rfl, rfl⟩ | exact Wsame.storeAll _ _ _ _ | exact Wsame.storeO _ _ _ _) hk)
        simp only [execOp]
        rw [hr.opd hl (fun s e => hp s (by simp [e])), hr.opd hc (fun s e => hp s (by simp [e]))]
        exact run_v (run_makeSlice (hT.ty _ _ ht) (hT.ty _ _ he) h0 h1 h2 h3 w)
      · exact h.elim
    · exact h.elim
  case mapUpdate t m k v =>
    split at h
    · rename_i r kd k' u kt e sh b hm hk hv ht
      split at h
      · rename_i kd' sh' b' htk
        obtain ⟨hkd, h⟩ := h
        cases r with
        | none => exact h.elim
        | some r =>
          simp only [onM] at h
          obtain ⟨es, clock, hes, hk'⟩ := h
          refine wp_skipped ?_ (fin _ _ (by first | exact ⟨rfl, rfl, rfl⟩ | exact Wsame.storeAll _ _ _ _ | exact Wsame.storeO _ _ _ _) hk')
          simp only [execOp]
          rw [hr.opd hm (fun s e => hp s (by simp [e])), hr.opd hk (fun s e => hp s (by simp [e])), hr.opd hv (fun s e => hp s (by simp [e]))]
          exact run_u (run_mapUpdate (hT.ty _ _ ht) (hT.ty _ _ htk) hes k' u)
      · exact h.elim
    · exact h.elim
  case range t x =>
    split at h
    · rename_i _ r kt e sh b d hx ht
      cases r with
      | none =>
        simp only [onM] at h
        refine wp_value ?_ (hK _ _ _ ((hr.put hd _).hint d _) h ?_ ⟨rfl, rfl, rfl⟩)
        · simp only [execOp]
          rw [hr.opd hx (fun s e => hp s (by simp [e]))]
          refine run_v ?_
          have hu : P.underlying t = some (.map kt e) := (hT.ty _ _ ht).und
          unfold Instr.range
          rw [bind_ok (run_underlying hu w)]; rfl
        · intro s
          by_cases hs : hint d = s
          · exact Or.inr (by unfold hint at hs; omega)
          · exact Or.inl (by rw [get_cons_ne _ _ hs])
      | some r =>
        simp only [onM] at h
        obtain ⟨es, clock, hes, hk'⟩ := h
        refine wp_value ?_ (hK _ _ _ ((hr.put hd _).hint d _) hk' ?_ ⟨rfl, rfl, rfl⟩)
        · simp only [execOp]
          rw [hr.opd hx (fun s e => hp s (by simp [e]))]
          refine run_v ?_
          have hu : P.underlying t = some (.map kt e) := (hT.ty _ _ ht).und
          unfold Instr.range
          rw [bind_ok (run_underlying hu w)]
          simp only []
          rw [bind_ok (run_getMap hes)]
          rfl
        · intro s
          by_cases hs : hint d = s
          · exact Or.inr (by unfold hint at hs; omega)
          · exact Or.inl (by rw [get_cons_ne _ _ hs])
    · exact h.elim
  case next x b =>
    cases x <;> cases b <;> simp only [] at h
    rename_i it
    split at h
    · rename_i p t hx hh
      split at h
      · rename_i kt et sh by_ ht
        split at h
        · rename_i kd sh' b' htk
          obtain ⟨ad, rfl, h⟩ := onP_elim h
          obtain ⟨h0, m, since, seen, st, hi, h⟩ := h
          have ex : (execOp a.eval ⟨dst, .next (.tmp it) false, type, pos, after, guard⟩) = (do pure (Next.value (← Instr.next (.pointer (some ad)) false type))) := by
            simp only [execOp]
            rw [hr.opd hx (fun s e => hp s (by simp [e]))]
          cases m with
          | none =>
            simp only [onM] at h
            refine wp_value ?_ (fin _ _ (by first | exact ⟨rfl, rfl, rfl⟩ | exact Wsame.storeAll _ _ _ _ | exact Wsame.storeO _ _ _ _) h)
            rw [ex]
            refine run_v ?_
            obtain ⟨b0, off, spot⟩ := ad
            simp only at h0 hi
            subst h0
            unfold Instr.next
            simp only []
            rw [bind_ok (run_getObj hi (by simp))]
            rfl
          | some m =>
            simp only [onM] at h
            obtain ⟨es, clock, hm, hg, hyes, hno⟩ := h
            obtain ⟨w1, hw1, hrun⟩ := run_next (P := P) h0 hi hm hg type
            rcases hrun with ⟨e, he, hs, hrun⟩ | ⟨hall, hrun⟩
            · exact wp_value (by rw [ex]; exact run_v hrun) (fin _ _ (by rcases hw1 with rfl | rfl <;> exact ⟨rfl, rfl, rfl⟩) (hyes e he hs w1 hw1))
            · exact wp_value (by rw [ex]; exact run_v hrun) (fin _ _ (by rcases hw1 with rfl | rfl <;> exact ⟨rfl, rfl, rfl⟩) (hno hall w1 hw1))
        · exact h.elim
      · exact h.elim
    · exact h.elim
  case entry x =>
    cases x <;> simp only [] at h
    rename_i it
    split at h
    · rename_i p t hx hh
      split at h
      · rename_i kt et sh by_ ht
        split at h
        · rename_i kd sh' b' ie htk hte
          obtain ⟨ad, rfl, h⟩ := onP_elim h
          obtain ⟨h0, m, since, seen, st, hi, es, hm, e, hs, he, hu, y, hy, hk⟩ := h
          refine wp_value ?_ (fin _ _ (by first | exact ⟨rfl, rfl, rfl⟩ | exact Wsame.storeAll _ _ _ _ | exact Wsame.storeO _ _ _ _) hk)
          simp only [execOp]
          rw [hr.opd hx (fun s e => hp s (by simp [e])), ← hy]
          exact run_v (run_entry h0 hi hm hs he hu)
        · exact h.elim
      · exact h.elim
    · exact h.elim
  case call c =>
    obtain ⟨callee, args, argTypes⟩ := c
    have arg : ∀ {l}, opds E args.toList = some l → args.map a.eval = l.toArray := by
      intro l hl
      rw [← hr.opds args.toList _ hl (fun s e => hp s (by unfold Call.operands; rw [Array.toList_append]; exact List.mem_append_right _ e))]; apply Array.ext'; simp
    cases callee with
    | invoke f n => simp only [] at h
    | value f =>
      simp only [] at h
      split at h
      · rename_i g fs cs l hf hl
        split at h
        · rename_i rs hrs
          unfold Oper.wp
          have : (execOp a.eval ⟨dst, .call ⟨.value f, args, argTypes⟩, type, pos, after, guard⟩).run P w = .ok (.enter g (fs.toList ++ l ++ cs.toList).toArray) w := by
            simp only [execOp, resolve]
            rw [arg hl, hr.opd hf (fun s e => hp s (by simp [Call.operands, e]))]
            simp only [Deferred.ofValue]
            rw [bind_ok (run_pure P _ w)]
            simp only [invoke]
            rw [hT.fn _ _ hrs]
            congr 2
            apply Array.ext'; simp
          rw [this]
          refine Calls.mono h ?_
          rintro e w' ⟨hs, x, rfl, hk⟩
          exact fin _ _ hs hk
        · exact h.elim
      · exact h.elim
    | builtin b =>
      have gen : ∀ {l}, opds E args.toList = some l → ∀ w, (execOp a.eval ⟨dst, .call ⟨.builtin b, args, argTypes⟩, type, pos, after, guard⟩).run P w = (builtin b argTypes type (args.map fun | .const _ => true | _ => false) l.toArray).run P w := by
        intro l hl w
        simp only [execOp, resolve]
        rw [arg hl]
        rw [bind_ok (run_pure P _ w)]
        simp only [invoke]
        rfl
      cases b <;> simp only [] at h <;> (try (exact h.elim))
      case append =>
        split at h
        · rename_i ad n c bd m d t t' hl hat
          have h0 : argTypes[0]? = some t := by
            have : argTypes.toList[0]? = some t := by rw [hat]; rfl
            simpa using this
          have h1 : argTypes[1]? = some t' := by
            have : argTypes.toList[1]? = some t' := by rw [hat]; rfl
            simpa using this
          split at h
          · rename_i e sh b e' sh' b' ht ht'
            split at h
            · rename_i ie he
              obtain ⟨news, hn, hone, hb, hb0, hfits, hgrows⟩ := h
              by_cases hle : n + m ≤ c
              · obtain ⟨hst, hk⟩ := hfits hle
                refine wp_value ?_ (fin _ _ (by first | exact ⟨rfl, rfl, rfl⟩ | exact Wsame.storeAll _ _ _ _ | exact Wsame.storeO _ _ _ _) hk)
                rw [gen hl]
                exact run_v (run_append_fits (hT.ty _ _ ht) (hT.ty _ _ ht') (hT.ty _ _ he) hn hone hb hb0 hle hst argTypes h0 h1 type)
              · obtain ⟨hcap, hby, olds, hol, ho, ha0, hk⟩ := hgrows (by omega)
                obtain ⟨cap, hcle, hrun⟩ := run_append_grows (hT.ty _ _ ht) (hT.ty _ _ ht') (hT.ty _ _ he) hn hb hb0 (by omega) hcap hby hol ho ha0 argTypes h0 h1 type
                refine wp_value ?_ (fin _ _ (by first | exact ⟨rfl, rfl, rfl⟩ | exact Wsame.storeAll _ _ _ _ | exact Wsame.storeO _ _ _ _) (hk cap hcle))
                rw [gen hl]
                exact run_v hrun
            · exact h.elim
          · exact h.elim
        · rename_i ad n c m t t' hl hat
          have h0 : argTypes[0]? = some t := by
            have : argTypes.toList[0]? = some t := by rw [hat]; rfl
            simpa using this
          have h1 : argTypes[1]? = some t' := by
            have : argTypes.toList[1]? = some t' := by rw [hat]; rfl
            simpa using this
          split at h
          · rename_i e sh b q sh' b' ht ht'
            split at h
            · rename_i ie he
              obtain ⟨hm0, hm48, hmb, hn48, hlt, hcap, hby, olds, hol, ho, ha0, hk⟩ := h
              obtain ⟨m, rfl⟩ := Int.eq_ofNat_of_zero_le hm0
              simp only [Int.toNat_natCast] at hlt hcap hk
              obtain ⟨cap, hcle, hrun⟩ := run_append_zeros (hT.ty _ _ ht) (hT.ty _ _ ht') (hT.ty _ _ he) (by omega) (by have := hmb; omega) hn48 hlt hcap hby hol ho ha0 argTypes h0 h1 type
              refine wp_value ?_ (fin _ _ (by first | exact ⟨rfl, rfl, rfl⟩ | exact Wsame.storeAll _ _ _ _ | exact Wsame.storeO _ _ _ _) (hk cap hcle))
              rw [gen hl]
              exact run_v hrun
            · exact h.elim
          · exact h.elim
        · exact h.elim
      case copy =>
        split at h
        · rename_i ad n c bd m d t ts hl hat
          have h0 : argTypes[0]? = some t := by
            have : argTypes.toList[0]? = some t := by rw [hat]; rfl
            simpa using this
          split at h
          · rename_i e sh b ht
            split at h
            · rename_i ie he
              obtain ⟨news, hn, hone, hb, hb0, hst, hk⟩ := h
              refine wp_value ?_ (fin _ _ (by first | exact ⟨rfl, rfl, rfl⟩ | exact Wsame.storeAll _ _ _ _ | exact Wsame.storeO _ _ _ _) hk)
              rw [gen hl]
              exact run_v (run_copy (hT.ty _ _ ht) (hT.ty _ _ he) hn hone hb hb0 hst argTypes h0 type)
            · exact h.elim
          · exact h.elim
        · exact h.elim
      case delete =>
        split at h
        · rename_i r kd k t ts hl hat
          have h0 : argTypes[0]? = some t := by
            have : argTypes.toList[0]? = some t := by rw [hat]; rfl
            simpa using this
          split at h
          · rename_i kt e sh b ht
            split at h
            · rename_i kd' sh' b' htk
              obtain ⟨hkd, h⟩ := h
              cases r with
              | none =>
                simp only [onM] at h
                refine wp_value ?_ (fin _ _ (by first | exact ⟨rfl, rfl, rfl⟩ | exact Wsame.storeAll _ _ _ _ | exact Wsame.storeO _ _ _ _) h)
                rw [gen hl]
                refine run_v ?_
                have hu : P.underlying t = some (.map kt e) := (hT.ty _ _ ht).und
                have huk : P.underlying kt = some (.int kd') := (hT.ty _ _ htk).und
                unfold Builtin.delete_
                simp only [h0, List.getElem?_toArray, List.getElem?_cons_zero, List.getElem?_cons_succ]
                rw [bind_ok (run_underlying hu w)]
                simp only []
                rw [bind_ok (run_checkKey huk _ k w)]; rfl
              | some r =>
                simp only [onM] at h
                obtain ⟨es, clock, hes, hk'⟩ := h
                refine wp_value ?_ (fin _ _ (by first | exact ⟨rfl, rfl, rfl⟩ | exact Wsame.storeAll _ _ _ _ | exact Wsame.storeO _ _ _ _) hk')
                rw [gen hl]
                exact run_v (run_delete (hT.ty _ _ ht) (hT.ty _ _ htk) hes k argTypes h0 type)
            · exact h.elim
          · exact h.elim
        · exact h.elim
end
end Go.Vc
