/- The verification condition is sound: code, functions. -/
import Derived.Test.YtbolgpjcmchfoaaGreatVg
namespace Go.Vc
open Go
theorem closed_start (ops : Array Oper) : Closed ops (Array.replicate ops.size false) := fun k ok hk hl => by
  have : k < ops.size := by
    rcases Nat.lt_or_ge k ops.size with h | h
    · exact h
    · simp [Array.getElem?_eq_none h] at hk
  simp [this] at hl
section
variable {P : Program} {T : Tab}
/-! slots that are carried -/
theorem mem_iff : ∀ {l : List Nat} {x : Nat}, mem x l = true ↔ x ∈ l
  | [], x => by simp [mem]
  | y :: r, x => by
    simp only [mem, List.mem_cons]
    cases hb : Nat.beq x y with
    | true => simp [Nat.eq_of_beq_eq_true hb]
    | false =>
      have : x ≠ y := fun e => by rw [e, Nat.beq_refl] at hb; cases hb
      simp [this, mem_iff (l := r)]
theorem carried_spec (E : Env) : ∀ (l seen : List Nat) (s : Nat), s ∈ carried E l seen → s ∈ l
  | [], _, _, h => by simp [carried] at h
  | d :: r, seen, s, h => by
    simp only [carried] at h
    split at h
    · exact List.mem_cons_of_mem _ (carried_spec E r _ s h)
    · split at h
      · rcases List.mem_cons.1 h with rfl | h
        · simp
        · exact List.mem_cons_of_mem _ (carried_spec E r _ s h)
      · exact List.mem_cons_of_mem _ (carried_spec E r _ s h)
theorem opd_tmp {E : Env} {s : Nat} {v : Value} (h : opd E (.tmp s) = some v) : s < 1000000 ∧ get E s = some v := by
  simp only [opd] at h
  split at h
  · rename_i hb; rw [Nat.blt_eq] at hb; exact ⟨hb, h⟩
  · cases h
theorem get_drop {ds : List Nat} : ∀ {E : Env} {s : Nat} {v : Value}, get (drop ds E) s = some v → s ∉ ds ∧ get E s = some v
  | [], s, v, h => by simp [drop, get] at h
  | p :: r, s, v, h => by
    obtain ⟨k, u⟩ := p
    simp only [drop] at h
    cases hm : mem k ds with
    | true =>
      rw [hm] at h
      obtain ⟨h1, h2⟩ := get_drop h
      refine ⟨h1, ?_⟩
      have : k ≠ s := fun e => h1 (e ▸ mem_iff.1 hm)
      rw [get_cons_ne _ _ this]; exact h2
    | false =>
      rw [hm] at h
      simp only [] at h
      by_cases e : k = s
      · subst e
        rw [get_cons_eq] at h ⊢
        exact ⟨fun hc => (by rw [mem_iff.2 hc] at hm; cases hm), h⟩
      · rw [get_cons_ne _ _ e] at h ⊢
        exact get_drop h
theorem get_putAll {E : Env} : ∀ {cs : List Nat} {vs : List Value} {s : Nat} {v : Value}, get (putAll cs vs E) s = some v → (∃ i : Nat, cs[i]? = some s ∧ vs[i]? = some v) ∨ get E s = some v
  | [], _, _, _, h => Or.inr (by simpa [putAll] using h)
  | _ :: _, [], _, _, h => Or.inr (by simpa [putAll] using h)
  | c :: cs, u :: vs, s, v, h => by
    simp only [putAll] at h
    by_cases e : c = s
    · subst e
      rw [get_cons_eq] at h
      exact Or.inl ⟨0, by simp, by simpa using h⟩
    · rw [get_cons_ne _ _ e] at h
      rcases get_putAll h with ⟨i, h1, h2⟩ | h
      · exact Or.inl ⟨i + 1, by simpa using h1, by simpa using h2⟩
      · exact Or.inr h
theorem getAll_spec {E : Env} : ∀ {cs : List Nat} {vs : List Value}, getAll E cs = some vs → ∀ {i s : Nat} {v : Value}, cs[i]? = some s → vs[i]? = some v → opd E (.tmp s) = some v
  | [], vs, h, i, s, v, h1, _ => by simp at h1
  | c :: cs, vs, h, i, s, v, h1, h2 => by
    simp only [getAll] at h
    cases ho : opd E (.tmp c) with
    | none => simp [ho] at h
    | some u =>
      cases hg : getAll E cs with
      | none => simp [ho, hg] at h
      | some l =>
        simp only [ho, hg, Option.some.injEq] at h
        subst h
        cases i with
        | zero =>
          simp only [List.getElem?_cons_zero, Option.some.injEq] at h1 h2
          subst h1; subst h2; exact ho
        | succ i => exact getAll_spec hg (by simpa using h1) (by simpa using h2)
theorem getAll_map {N : Nat} {E : Env} {a : Act} (hr : Rep N none_ E a) : ∀ {cs : List Nat} {vs : List Value}, getAll E cs = some vs → cs.map (fun s => a.tmps.getD s undef) = vs
  | [], vs, h => by simpa [getAll] using h
  | c :: cs, vs, h => by
    simp only [getAll] at h
    cases ho : opd E (.tmp c) with
    | none => simp [ho] at h
    | some u =>
      cases hg : getAll E cs with
      | none => simp [ho, hg] at h
      | some l =>
        simp only [ho, hg, Option.some.injEq] at h
        subst h
        obtain ⟨h1, h2⟩ := opd_tmp ho
        rw [List.map_cons, getD_of (hr.at_ c u h2 h1 (fun f => f)), getAll_map hr hg]
def okDs (N : Nat) (ds : List Nat) : Prop := ∀ s ∈ ds, s < N
theorem vc_sound (hT : TabOk P T) {N : Nat} : ∀ (c : Code) (E : Env) (w : World) (K : Env → World → Prop) (X : Nat → Env → World → Prop) (R : Env → World → Prop) (Q : Exit → Act → World → Prop) (a : Act),
    okDs N (dsts c) → Rep N none_ E a → vc P T c E w K X R →
    (∀ E' a' w', Rep N none_ E' a' → Keeps (dsts c) a a' → K E' w' → Wsame w w' → Q .normal a' w') →
    (∀ i E' a' w', Rep N none_ E' a' → Keeps (dsts c) a a' → X i E' w' → Wsame w w' → Q (.exit i) a' w') →
    (∀ E' a' w', Rep N none_ E' a' → Keeps (dsts c) a a' → R E' w' → Wsame w w' → Q .ret a' w') → c.wp P Q a w := by
  intro c
  induction c with
  | skip => intro E w K X R Q a _ hr h hK _ _; exact wp_skip (hK E a w hr (Keeps.refl _ _) h (Wsame.refl w))
  | label l => intro E w K X R Q a _ hr h hK _ _; exact wp_label (hK E a w hr (Keeps.refl _ _) h (Wsame.refl w))
  | exit i => intro E w K X R Q a _ hr h _ hX _; exact wp_exit (hX i E a w hr (Keeps.refl _ _) h (Wsame.refl w))
  | ret => intro E w K X R Q a _ hr h _ _ hR; exact wp_ret (hR E a w hr (Keeps.refl _ _) h (Wsame.refl w))
  | goto l => intro E w K X R Q a _ _ h _ _ _; exact h.elim
  | refuse l => intro E w K X R Q a _ _ h _ _ _; exact h.elim
  | rangeFunc f p x y => intro E w K X R Q a _ _ h _ _ _; exact h.elim
  | seq x y ihx ihy =>
    intro E w K X R Q a hd hr h hK hX hR
    have hdx : okDs N (dsts x) := fun s hs => hd s (by simp [dsts, hs])
    have hdy : okDs N (dsts y) := fun s hs => hd s (by simp [dsts, hs])
    have mx : ∀ {a a' : Act}, Keeps (dsts x) a a' → Keeps (dsts (.seq x y)) a a' := fun k => k.mono fun s hs => by simp [dsts, hs]
    have my : ∀ {a a' : Act}, Keeps (dsts y) a a' → Keeps (dsts (.seq x y)) a a' := fun k => k.mono fun s hs => by simp [dsts, hs]
    refine wp_seq (ihx E w (fun E w => vc P T y E w K X R) X R _ a hdx hr h ?_ ?_ ?_)
    · intro E' a' w' h1 h2 h3 h4
      exact ihy E' w' K X R Q a' hdy h1 h3 (fun E'' a'' w'' k1 k2 k3 k4 => hK E'' a'' w'' k1 ((mx h2).trans (my k2)) k3 (h4.trans k4))
        (fun i E'' a'' w'' k1 k2 k3 k4 => hX i E'' a'' w'' k1 ((mx h2).trans (my k2)) k3 (h4.trans k4)) (fun E'' a'' w'' k1 k2 k3 k4 => hR E'' a'' w'' k1 ((mx h2).trans (my k2)) k3 (h4.trans k4))
    · intro i E' a' w' h1 h2 h3 h4; exact hX i E' a' w' h1 (mx h2) h3 h4
    · intro E' a' w' h1 h2 h3 h4; exact hR E' a' w' h1 (mx h2) h3 h4
  | cond o x y ihx ihy =>
    intro E w K X R Q a hd hr h hK hX hR
    have hdx : okDs N (dsts x) := fun s hs => hd s (by simp [dsts, hs])
    have hdy : okDs N (dsts y) := fun s hs => hd s (by simp [dsts, hs])
    have mx : ∀ {a a' : Act}, Keeps (dsts x) a a' → Keeps (dsts (.cond o x y)) a a' := fun k => k.mono fun s hs => by simp [dsts, hs]
    have my : ∀ {a a' : Act}, Keeps (dsts y) a a' → Keeps (dsts (.cond o x y)) a a' := fun k => k.mono fun s hs => by simp [dsts, hs]
    have gox : ∀ E1, Rep N none_ E1 a → vc P T x E1 w K X R → x.wp P Q a w := fun E1 hr1 h1 => ihx E1 w K X R Q a hdx hr1 h1 (fun _ _ _ k1 k2 k3 k4 => hK _ _ _ k1 (mx k2) k3 k4) (fun _ _ _ _ k1 k2 k3 k4 => hX _ _ _ _ k1 (mx k2) k3 k4) (fun _ _ _ k1 k2 k3 k4 => hR _ _ _ k1 (mx k2) k3 k4)
    have goy : ∀ E1, Rep N none_ E1 a → vc P T y E1 w K X R → y.wp P Q a w := fun E1 hr1 h1 => ihy E1 w K X R Q a hdy hr1 h1 (fun _ _ _ k1 k2 k3 k4 => hK _ _ _ k1 (my k2) k3 k4) (fun _ _ _ _ k1 k2 k3 k4 => hX _ _ _ _ k1 (my k2) k3 k4) (fun _ _ _ k1 k2 k3 k4 => hR _ _ _ k1 (my k2) k3 k4)
    simp only [vc] at h
    split at h
    · rename_i s t ho
      have hE := (opd_tmp ho).2
      have he := hr.opd ho (fun _ _ f => f)
      cases t
      · exact wp_cond_false he (goy _ (hr.same hE rfl) h)
      · exact wp_cond_true he (gox _ (hr.same hE rfl) h)
    · rename_i v t ho
      have he := hr.opd ho (fun _ _ f => f)
      cases t
      · exact wp_cond_false he (goy _ hr h)
      · exact wp_cond_true he (gox _ hr h)
    · exact h.elim
  | block id x ih =>
    intro E w K X R Q a hd hr h hK hX hR
    refine wp_block (ih E w K _ R _ a hd hr h (fun E' a' w' k1 k2 k3 k4 => hK E' a' w' k1 k2 k3 k4) ?_ (fun E' a' w' k1 k2 k3 k4 => hR E' a' w' k1 k2 k3 k4))
    intro i E' a' w' k1 k2 k3 k4
    simp only [Exit.inBlock]
    cases hb : Nat.beq i id with
    | true =>
      rw [hb] at k3
      rw [if_pos (Nat.eq_of_beq_eq_true hb)]
      exact hK E' a' w' k1 k2 k3 k4
    | false =>
      rw [hb] at k3
      have : i ≠ id := fun e => by rw [e, Nat.beq_refl] at hb; cases hb
      rw [if_neg this]
      exact hX i E' a' w' k1 k2 k3 k4
  | scope x ih =>
    intro E w K X R Q a hd hr h hK hX hR
    exact wp_scope_straight (ih E w K X R _ a hd hr h (fun E' a' w' k1 k2 k3 k4 => hK E' a' w' k1 k2 k3 k4) (fun i E' a' w' k1 k2 k3 k4 => hX i E' a' w' k1 k2 k3 k4) (fun E' a' w' k1 k2 k3 k4 => hR E' a' w' k1 k2 k3 k4))
  | region id ops draw =>
    intro E w K X R Q a hd hr h hK hX hR
    have hds : ∀ o ∈ ops.toList, ∀ s, o.dst = some s → s < N ∧ s ∈ dsts (.region id ops draw) := by
      intro o ho s hs
      have : s ∈ dsts (.region id ops draw) := by
        simp only [dsts, List.mem_filterMap]
        exact ⟨o, ho, hs⟩
      exact ⟨hd s this, this⟩
    cases draw with
    | false =>
      simp only [vc] at h
      refine wp_region ?_
      have := vcOps_sound (Q := Q) hT hds ops.toList 0 E a w (by simp) hr h (fun E' a' w' k1 k2 k3 k4 => hK E' a' w' k1 k2 k3 k4)
      rw [List.range_eq_range']
      simpa using this
    | true =>
      simp only [vc] at h
      let Q' : Exit → Act → World → Prop := fun e a w => match e with
        | .normal => Q .normal a w
        | _ => False
      have hQ' : ∀ c a w, ¬ Q' (.panic c) a w := fun _ _ _ f => f
      refine wp_mono (Q := Q') ?_ (fun e a w hq => by cases e <;> first | exact hq | exact hq.elim)
      refine wp_region_any hT.mixed ?_
      split at h
      · rename_i hsel hall
        exact wpAny_of_L _ _ _ _ (vcD_sound (Q := Q') (S := fun w' => w' = w.drew) hT hds hsel (fun φ hφ w' e => e ▸ hφ) hQ' _ _ E a w.drew (closed_start _) hr (Or.inl rfl) h (fun E' a' w' k1 k2 k3 k4 => hK E' a' w' k1 k2 k3 ⟨k4.os, k4.tape, k4.output⟩))
      · rename_i hsel hall
        obtain ⟨S, hS, h⟩ := h
        exact wpAny_of_L _ _ _ _ (vcD_sound (Q := Q') (S := S) hT hds hsel (fun φ hφ w' e => hφ w' e) hQ' _ _ E a w.drew (closed_start _) hr (Or.inl hS) h (fun E' a' w' k1 k2 k3 k4 => hK E' a' w' k1 k2 k3 ⟨k4.os, k4.tape, k4.output⟩))
      · exact h.elim
  | loop x ih =>
    intro E w K X R Q a hd hr h hK hX hR
    simp only [vc] at h
    generalize hcs : carried E (dsts x) [] = cs at h
    have hsub : ∀ s, s ∈ cs → s ∈ dsts x := fun s hs => carried_spec E (dsts x) [] s (hcs ▸ hs)
    split at h
    · rename_i vs hvs
      split at h
      · rename_i shs hshs
        obtain ⟨x₀, hx₀, h⟩ := onO_elim h
        obtain ⟨I, μ, hI, hround⟩ := h
        have repOf : ∀ {a' : Act} (y : HT shs), a'.defers = [] → a'.tmps.size = N → (∀ (i s : Nat) (v : Value), cs[i]? = some s → (HT.vals shs y)[i]? = some v → s < 1000000 → a'.tmps[s]? = some v) → Keeps (dsts x) a a' → Rep N none_ (putAll cs (HT.vals shs y) (drop (dsts x) E)) a' := by
          intro a' y h1 h2 h3 h4
          refine ⟨h1, h2, fun s v hg hl _ => ?_⟩
          rcases get_putAll hg with ⟨i, e1, e2⟩ | hg
          · exact h3 i s v e1 e2 hl
          · obtain ⟨hn, hg⟩ := get_drop hg
            rw [h4 s hn]
            exact hr.at_ s v hg hl (fun f => f)
        let I' : Act → World → Prop := fun a' w' => ∃ y : HT shs, Rep N none_ (putAll cs (HT.vals shs y) (drop (dsts x) E)) a' ∧ Keeps (dsts x) a a' ∧ cs.map (fun s => a'.tmps.getD s undef) = HT.vals shs y ∧ I y w' ∧ Wsame w w'
        let μ' : Act → World → Nat := fun a' w' => match HT.dec shs (cs.map fun s => a'.tmps.getD s undef) with
          | some y => μ y w'
          | none => 0
        refine wp_loop I' μ' ⟨x₀, ?_, Keeps.refl _ _, ?_, hI, Wsame.refl w⟩ ?_
        · refine repOf x₀ hr.defers hr.size ?_ (Keeps.refl _ _)
          intro i s v h1 h2 h3
          rw [HT.vals_dec shs vs x₀ hx₀] at h2
          exact hr.at_ s v (opd_tmp (getAll_spec hvs h1 h2)).2 h3 (fun f => f)
        · rw [HT.vals_dec shs vs x₀ hx₀]; exact getAll_map hr hvs
        · rintro a1 w1 ⟨y, hrep, hkeep, hmap, hIy, hws⟩
          refine ih _ w1 _ X R _ a1 hd hrep (hround y w1 hIy) ?_ ?_ ?_
          · intro E' a' w' k1 k2 k3 k4
            split at k3
            · rename_i vs' hvs'
              obtain ⟨y', hy', hI', hμ⟩ := onO_elim k3
              have hv' := HT.vals_dec shs vs' y' hy'
              have hmap' := getAll_map k1 hvs'
              refine ⟨⟨y', ?_, hkeep.trans k2, by rw [hmap', hv'], hI', hws.trans k4⟩, ?_⟩
              · refine repOf y' k1.defers k1.size ?_ (hkeep.trans k2)
                intro i s v h1 h2 h3
                rw [hv'] at h2
                exact k1.at_ s v (opd_tmp (getAll_spec hvs' h1 h2)).2 h3 (fun f => f)
              · simp only [μ', hmap', hmap, hy', HT.dec_vals]
                exact hμ
            · exact k3.elim
          · intro i E' a' w' k1 k2 k3 k4; exact hX i E' a' w' k1 (hkeep.trans k2) k3 (hws.trans k4)
          · intro E' a' w' k1 k2 k3 k4; exact hR E' a' w' k1 (hkeep.trans k2) k3 (hws.trans k4)
      · exact h.elim
    · exact h.elim
/-! ### Functions -/
theorem vcRes_sound (hT : TabOk P T) {N : Nat} {E : Env} {a : Act} {w : World} (hr : Rep N none_ E a) (g : ResultVar → Sem Value) (g1 : ∀ t, g (.tmp t) = pure (a.tmps.getD t undef)) (g2 : ∀ x t, g (.cell x t) = (do loadVar t (← asAddr (a.tmps.getD x undef)))) :
    ∀ (l : List ResultVar) (k : List Value → Prop), vcRes T E w l k → ∃ vs, k vs ∧ (l.mapM g).run P w = .ok vs w
  | [], k, h => ⟨[], h, rfl⟩
  | .tmp t :: r, k, h => by
    obtain ⟨v, hv, h⟩ := onV_elim h
    obtain ⟨vs, hk, hrun⟩ := vcRes_sound hT hr g g1 g2 r _ h
    have he := hr.opd hv (fun _ _ f => f)
    refine ⟨v :: vs, hk, ?_⟩
    rw [List.mapM_cons, g1]
    rw [bind_ok (run_pure P (a.tmps.getD t undef) w), bind_ok hrun]
    show (pure (_ :: _) : Sem (List Value)).run P w = _
    rw [show a.tmps.getD t undef = v from he]; rfl
  | .cell x t :: r, k, h => by
    simp only [vcRes] at h
    split at h
    · rename_i p i hx ht
      obtain ⟨ad, rfl, y, hc, h⟩ := onP_elim h
      obtain ⟨vs, hk, hrun⟩ := vcRes_sound hT hr g g1 g2 r _ h
      have he := hr.opd hx (fun _ _ f => f)
      refine ⟨i.ty.v y :: vs, hk, ?_⟩
      rw [List.mapM_cons, g2]
      have h1 : (do loadVar t (← asAddr (a.tmps.getD x undef)) : Sem Value).run P w = .ok (i.ty.v y) w := by
        rw [show a.tmps.getD x undef = .pointer (some ad) from he]
        rw [bind_ok (show (asAddr (.pointer (some ad))).run P w = .ok ad w from rfl)]
        exact run_loadVar (hT.ty _ _ ht) y hc
      rw [bind_ok h1, bind_ok hrun]; rfl
    · exact h.elim
theorem args_get : ∀ (as : List Value) (i s : Nat) (v : Value), get (args i as) s = some v → ∃ j, s = i + j ∧ as[j]? = some v
  | [], _, _, _, h => by simp [args, get] at h
  | u :: r, i, s, v, h => by
    simp only [args] at h
    by_cases e : i = s
    · subst e
      rw [get_cons_eq] at h
      exact ⟨0, rfl, by simpa using h⟩
    · rw [get_cons_ne _ _ e] at h
      obtain ⟨j, h1, h2⟩ := args_get r (i + 1) s v h
      exact ⟨j + 1, by omega, by simpa using h2⟩
/-- **A function's condition gives what its calls come to.** -/
theorem calls_of_vc (hT : TabOk P T) {f : FuncId} {fn : Func} (hf : P.funcs[f]? = some fn) {rs : List Ty} {av : List Value} (hok : okFn fn av.length = true) {w : World} {post : RT rs → World → Prop}
    (h : vcF P T fn rs av w post) : callsR P f av.toArray rs w post := by
  unfold vcF at h
  unfold okFn at hok
  cases hb : fn.body with
  | none => rw [hb] at h; exact h.elim
  | some c =>
    rw [hb] at h hok
    simp only [Bool.and_eq_true, List.all_eq_true] at h hok
    obtain ⟨hds, hlen⟩ := hok
    have hlen : av.length ≤ fn.ntmps := Nat.le_of_ble_eq_true hlen
    unfold callsR
    refine calls_of_wp hf hb ?_
    have hrep : Rep fn.ntmps none_ (args 0 av) { tmps := av.toArray ++ Array.replicate (fn.ntmps - av.toArray.size) undef, defers := [] } := by
      refine ⟨rfl, by simp; omega, fun s v hg _ _ => ?_⟩
      obtain ⟨j, h1, h2⟩ := args_get av 0 s v hg
      have h1 : s = j := by omega
      subst h1
      have : s < av.length := by
        rcases Nat.lt_or_ge s av.length with e | e
        · exact e
        · simp [List.getElem?_eq_none e] at h2
      rw [Array.getElem?_append_left (by simpa using this)]
      simpa using h2
    have hRes : ∀ E' a' w', Rep fn.ntmps none_ E' a' → vcRes T E' w' fn.results.toList (fun l => onO (RT.dec rs l) fun x => post x w') → Wsame w w' →
        a'.defers = [] ∧ ∃ v, (results fn a'.tmps).run P w' = .ok v w' ∧ Wsame w w' ∧ ∃ x : RT rs, Ending.returned v = .returned (RT.ret rs x) ∧ post x w' := by
      intro E' a' w' hr hres hws
      obtain ⟨vs, hk, hrun⟩ := vcRes_sound hT hr (fun | .tmp t => pure (a'.tmps.getD t undef) | .cell x t => do loadVar t (← asAddr (a'.tmps.getD x undef))) (fun _ => rfl) (fun _ _ => rfl) _ _ hres
      obtain ⟨x, hx, hp⟩ := onO_elim hk
      refine ⟨hr.defers, RT.ret rs x, ?_, hws, x, rfl, hp⟩
      unfold results
      rw [Array.mapM_eq_mapM_toList]
      have := bind_ok (f := fun vs => (pure (if h : vs.toArray.size = 1 then vs.toArray[0] else Value.tuple vs.toArray) : Sem Value)) hrun
      rw [map_eq_pure_bind, bind_assoc]
      refine this.trans ?_
      have hv := RT.vals_dec rs vs x hx
      unfold RT.ret
      rw [hv]
      cases vs with
      | nil => rfl
      | cons v r => cases r <;> rfl
    refine vc_sound hT c (args 0 av) w _ _ _ _ _ (fun s hs => by have := hds s hs; rw [Nat.blt_eq] at this; exact this) hrep h ?_ ?_ ?_
    · intro E' a' w' k1 _ k3 k4
      exact hRes E' a' w' k1 k3 k4
    · intro i E' a' w' _ _ k3 _; exact k3.elim
    · intro E' a' w' k1 _ k3 k4
      exact hRes E' a' w' k1 k3 k4
theorem callsR_mono {f : FuncId} {as : Array Value} {rs : List Ty} {w : World} {p q : RT rs → World → Prop} (h : callsR P f as rs w p) (hpq : ∀ x w', p x w' → q x w') : callsR P f as rs w q :=
  Calls.mono h fun _ _ ⟨hs, x, hx, hp⟩ => ⟨hs, x, hx, hpq _ _ hp⟩
end
end Go.Vc
