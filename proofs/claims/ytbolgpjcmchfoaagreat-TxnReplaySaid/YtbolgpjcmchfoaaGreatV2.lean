/- The generator is sound for calls. -/
import Derived.Test.YtbolgpjcmchfoaaGreatV1
import Derived.OrdersHeld
/- The verification condition is sound: regions, code, functions. -/
namespace Go.Vc
open Go
section
variable {P : Program} {T : Tab}
/-! decoding and back -/
theorem decEq_self (k : IntKind) : decEq k k = .isTrue rfl := by
  cases h : decEq k k with
  | isTrue _ => rfl
  | isFalse hn => exact absurd rfl hn
theorem none_some {α : Type} {x : α} (h : none = some x) : False := Option.some_ne_none x h.symm
theorem Sh.dec_v (s : Sh) : ∀ x : s.T, s.dec (s.v x) = some x := by
  cases s
  case int k => intro x; unfold Sh.dec Sh.v; simp only []; rw [decEq_self]
  case func =>
    intro x
    cases x with
    | none => rfl
    | some p => obtain ⟨f, a, b⟩ := p; rfl
  case iface =>
    intro x
    cases x with
    | none => rfl
    | some p => obtain ⟨t, v⟩ := p; rfl
  all_goals (intro x; rfl)
theorem Sh.v_dec (s : Sh) (v : Value) : ∀ x : s.T, s.dec v = some x → s.v x = v := by
  cases s <;> cases v <;> intro x h <;> (try (cases h; done))
  case int.int k k' n =>
    unfold Sh.dec at h
    simp only [] at h
    cases hd : decEq k k' with
    | isTrue e => rw [hd] at h; injection h with h; subst h; subst e; rfl
    | isFalse e => rw [hd] at h; cases h
  all_goals (first | (injection h with h; subst h; rfl) | (cases h; rfl))
theorem HT.dec_cons (s b : Sh) (r : List Sh) (v u : Value) (vs : List Value) : HT.dec (s :: b :: r) (v :: u :: vs) = (match s.dec v with
    | some x => match HT.dec (b :: r) (u :: vs) with
      | some y => some (x, y)
      | none => none
    | none => none : Option (HT (s :: b :: r))) := rfl
theorem RT.dec_cons (s b : Ty) (r : List Ty) (v u : Value) (vs : List Value) : RT.dec (s :: b :: r) (v :: u :: vs) = (match s.dec v with
    | some x => match RT.dec (b :: r) (u :: vs) with
      | some y => some (x, y)
      | none => none
    | none => none : Option (RT (s :: b :: r))) := rfl
theorem HT.dec_vals : ∀ (l : List Sh) (x : HT l), HT.dec l (HT.vals l x) = some x := by
  intro l
  induction l with
  | nil => intro x; rfl
  | cons s r ih =>
    cases r with
    | nil => intro x; exact Sh.dec_v s x
    | cons b r =>
      intro x
      have h1 := Sh.dec_v s x.1
      have h2 := ih x.2
      have h3 : ∃ v vs, HT.vals (b :: r) x.2 = v :: vs := by
        cases r with
        | nil => exact ⟨b.v x.2, [], rfl⟩
        | cons c r => exact ⟨b.v x.2.1, HT.vals (c :: r) x.2.2, rfl⟩
      obtain ⟨v, vs, h3⟩ := h3
      have e : HT.vals (s :: b :: r) x = s.v x.1 :: HT.vals (b :: r) x.2 := rfl
      rw [e]
      rw [h3] at h2 ⊢
      rw [HT.dec_cons, h1, h2]; rfl
theorem HT.vals_dec : ∀ (l : List Sh) (vs : List Value) (x : HT l), HT.dec l vs = some x → HT.vals l x = vs := by
  intro l
  induction l with
  | nil =>
    intro vs x h
    cases vs with
    | nil => rfl
    | cons v vs => exact (none_some (x := x) h).elim
  | cons s r ih =>
    cases r with
    | nil =>
      intro vs x h
      match vs, h with
      | [], h => exact (none_some (x := x) h).elim
      | [v], h => show [s.v x] = [v]; rw [Sh.v_dec s v x h]
      | _ :: _ :: _, h => exact (none_some (x := x) h).elim
    | cons b r =>
      intro vs x h
      match vs, h with
      | [], h => exact (none_some (x := x) h).elim
      | [_], h => exact (none_some (x := x) h).elim
      | v :: u :: vs, h =>
        rw [HT.dec_cons] at h
        cases h1 : s.dec v with
        | none => simp [h1] at h
        | some y =>
          cases h2 : HT.dec (b :: r) (u :: vs) with
          | none => simp [h1, h2] at h
          | some z =>
            rw [h1, h2] at h
            have h := Option.some.inj h
            subst h
            show s.v y :: HT.vals (b :: r) z = _
            rw [Sh.v_dec s v y h1, ih (u :: vs) z h2]
theorem Ty.v_dec (t : Ty) (v : Value) (x : t.T) (h : t.dec v = some x) : t.v x = v := by
  cases t with
  | cell s => exact Sh.v_dec s v x h
  | agg l =>
    cases v <;> simp only [Ty.dec, reduceCtorEq] at h
    simp only [Ty.v]
    rw [HT.vals_dec l _ x h]
theorem RT.vals_dec : ∀ (l : List Ty) (vs : List Value) (x : RT l), RT.dec l vs = some x → RT.vals l x = vs := by
  intro l
  induction l with
  | nil =>
    intro vs x h
    cases vs with
    | nil => rfl
    | cons v vs => exact (none_some (x := x) h).elim
  | cons s r ih =>
    cases r with
    | nil =>
      intro vs x h
      match vs, h with
      | [], h => exact (none_some (x := x) h).elim
      | [v], h => show [s.v x] = [v]; rw [Ty.v_dec s v x h]
      | _ :: _ :: _, h => exact (none_some (x := x) h).elim
    | cons b r =>
      intro vs x h
      match vs, h with
      | [], h => exact (none_some (x := x) h).elim
      | [_], h => exact (none_some (x := x) h).elim
      | v :: u :: vs, h =>
        rw [RT.dec_cons] at h
        cases h1 : s.dec v with
        | none => simp [h1] at h
        | some y =>
          cases h2 : RT.dec (b :: r) (u :: vs) with
          | none => simp [h1, h2] at h
          | some z =>
            rw [h1, h2] at h
            have h := Option.some.inj h
            subst h
            show s.v y :: RT.vals (b :: r) z = _
            rw [Ty.v_dec s v y h1, ih (u :: vs) z h2]
/-! what stays -/
abbrev none_ : Nat → Prop := fun _ => False
def Keeps (ds : List Nat) (a a' : Act) : Prop := ∀ s, s ∉ ds → a'.tmps[s]? = a.tmps[s]?
theorem Keeps.refl (ds : List Nat) (a : Act) : Keeps ds a a := fun _ _ => rfl
theorem Keeps.trans {ds : List Nat} {a b c : Act} (h : Keeps ds a b) (k : Keeps ds b c) : Keeps ds a c := fun s hs => (k s hs).trans (h s hs)
theorem Keeps.mono {ds ds' : List Nat} {a b : Act} (h : Keeps ds a b) (hs : ∀ s, s ∈ ds → s ∈ ds') : Keeps ds' a b := fun s h' => h s fun e => h' (hs s e)
theorem Keeps.put {ds : List Nat} {a : Act} {d : Option Tmp} (hd : ∀ s, d = some s → s ∈ ds) (v : Value) : Keeps ds a (a.put d v) := by
  intro s hs
  cases d with
  | none => rfl
  | some d =>
    have : d ≠ s := fun e => hs (e ▸ hd d rfl)
    simp only [Act.put]
    rw [Array.getElem?_setIfInBounds_ne this]
/-! guards -/
theorem vcG_sound {N : Nat} {E : Env} {a : Act} (hr : Rep N none_ E a) {ops : Array Oper} {o : Oper} {yes no : Env → Prop} (h : vcG ops o E yes no) :
    (Region.wanted o (yielded ops a.tmps) = true ∧ ∃ E', Rep N none_ E' a ∧ yes E') ∨ (Region.wanted o (yielded ops a.tmps) = false ∧ ∃ E', Rep N none_ E' a ∧ no E') := by
  unfold vcG at h
  unfold Region.wanted
  cases hg : o.guard with
  | none => rw [hg] at h; exact Or.inl ⟨rfl, E, hr, h⟩
  | some p =>
    obtain ⟨j, want⟩ := p
    rw [hg] at h
    simp only [] at h ⊢
    cases hd : (ops[j]?).bind (·.dst) with
    | none =>
      rw [hd] at h
      refine Or.inr ⟨?_, E, hr, h⟩
      simp [yielded, hd]
    | some s =>
      rw [hd] at h
      simp only [] at h
      have hat : ∀ v, opd E (.tmp s) = some v → a.tmps[s]? = some v ∧ get E s = some v := by
        intro v hv
        simp only [opd] at hv
        split at hv
        · rename_i hb
          exact ⟨hr.at_ s v hv (by rw [Nat.blt_eq] at hb; exact hb) (fun f => f), hv⟩
        · cases hv
      split at h
      · rename_i b hb
        obtain ⟨ha, hgE⟩ := hat _ hb
        have hy : yielded ops a.tmps j = some b := by simp [yielded, hd, ha]
        cases b
        · have hrep := hr.same hgE (u := .bool false) rfl
          cases want
          · exact Or.inl ⟨by rw [hy]; rfl, _, hrep, h⟩
          · exact Or.inr ⟨by rw [hy]; rfl, _, hrep, h⟩
        · have hrep := hr.same hgE (u := .bool true) rfl
          cases want
          · exact Or.inr ⟨by rw [hy]; rfl, _, hrep, h⟩
          · exact Or.inl ⟨by rw [hy]; rfl, _, hrep, h⟩
      · rename_i v hnb hv
        obtain ⟨ha, _⟩ := hat _ hv
        refine Or.inr ⟨?_, E, hr, h⟩
        have : yielded ops a.tmps j = none := by
          simp only [yielded, hd, Option.bind_some, ha]
          split
          · rename_i b hb; simp only [Option.some.injEq] at hb; exact (hnb b hb).elim
          · rfl
        rw [this]; cases want <;> rfl
      · exact h.elim
theorem vcStep_sound (hT : TabOk P T) {N : Nat} {E : Env} {a : Act} (hr : Rep N none_ E a) {o : Oper} {w : World} {K : Env → World → Prop} {next : Act → World → Prop} {Q : Exit → Act → World → Prop}
    (hd : ∀ s, o.dst = some s → s < N) (h : vcStep P T o E w K) (hK : ∀ E' v w', Rep N none_ E' (a.put o.dst v) → K E' w' → Wsame w w' → next (a.put o.dst v) w') : o.wp P a w next Q := by
  unfold vcStep at h
  split at h
  · obtain ⟨v, hrun, hk⟩ := vcS_sound (S := fun w' => w' = w) hT (fun φ hφ w' e => e ▸ hφ) hr (fun _ _ f => f) h
    exact wp_value (hrun w rfl) (hK _ v w (hr.put hd v) hk (Wsame.refl w))
  · exact vcE_sound hT hr hd (fun _ _ f => f) h (fun E' v w' hr' hk _ hs => hK E' v w' hr' hk hs)
theorem vcOps_sound (hT : TabOk P T) {N : Nat} {ops : Array Oper} {K : Env → World → Prop} {Q : Exit → Act → World → Prop} {ds : List Nat} (hds : ∀ o ∈ ops.toList, ∀ s, o.dst = some s → s < N ∧ s ∈ ds) :
    ∀ (l : List Oper) (k : Nat) (E : Env) (a : Act) (w : World), ops.toList.drop k = l → Rep N none_ E a → vcOps P T ops l E w K →
      (∀ E' a' w', Rep N none_ E' a' → Keeps ds a a' → K E' w' → Wsame w w' → Q .normal a' w') → wpOps P ops Q (List.range' k l.length) a w
  | [], k, E, a, w, _, hr, h, hK => hK E a w hr (Keeps.refl _ _) h (Wsame.refl w)
  | o :: r, k, E, a, w, hl, hr, h, hK => by
    have ho : ops[k]? = some o := by
      have : (ops.toList.drop k)[0]? = some o := by rw [hl]; rfl
      simpa using this
    have hr' : ops.toList.drop (k + 1) = r := by
      have : (ops.toList.drop k).drop 1 = r := by rw [hl]; rfl
      simpa [Nat.add_comm] using this
    have hmem : o ∈ ops.toList := by
      have : o ∈ ops.toList.drop k := by rw [hl]; simp
      exact List.mem_of_mem_drop this
    have hd := hds o hmem
    simp only [List.length_cons, List.range'_succ, wpOps, ho]
    have step : ∀ E' v w', Rep N none_ E' (a.put o.dst v) → vcOps P T ops r E' w' K → Wsame w w' → wpOps P ops Q (List.range' (k + 1) r.length) (a.put o.dst v) w' := by
      intro E' v w' hrep hk hs
      refine vcOps_sound hT hds r (k + 1) E' _ w' hr' hrep hk fun E'' a'' w'' h1 h2 h3 h4 => hK E'' a'' w'' h1 ?_ h3 (hs.trans h4)
      exact (Keeps.put (fun s e => (hd s e).2) v).trans h2
    rcases vcG_sound hr h with ⟨hw, E', hrep, hy⟩ | ⟨hw, E', hrep, hn⟩
    · rw [if_pos hw]
      exact .inl (vcStep_sound hT hrep (fun s e => (hd s e).1) hy step)
    · rw [if_neg (by rw [hw]; simp)]
      exact step _ _ _ (hrep.put (fun s e => (hd s e).1) undef) hn (Wsame.refl w)
/-! regions that draw -/
def wpAnyL (P : Program) (ops : Array Oper) (Q : Exit → Act → World → Prop) (S : World → Prop) : Nat → Array Bool → Act → World → Prop
  | 0, listed, a, w => Region.ready .any ops listed = [] ∧ Q .normal a w
  | fuel + 1, listed, a, w =>
    (Region.ready .any ops listed = [] → Q .normal a w) ∧
    ∀ i ∈ Region.ready .any ops listed, wpOp P ops Q i (fun a' w' => ((∃ o, ops[i]? = some o ∧ last ops i o = true) ∨ S w') ∧ wpAnyL P ops Q S fuel (listed.setIfInBounds i true) a' w') a w
theorem wpAny_of_L {ops : Array Oper} {Q : Exit → Act → World → Prop} {S : World → Prop} : ∀ (fuel : Nat) (listed : Array Bool) (a : Act) (w : World), wpAnyL P ops Q S fuel listed a w → wpAny P .any ops Q fuel listed a w
  | 0, _, _, _, h => h
  | fuel + 1, _, _, _, h => ⟨h.1, fun i hi => wpOp_mono (fun a' w' h' => wpAny_of_L fuel _ a' w' h'.2) (h.2 i hi)⟩
theorem wpAnyL_done {ops : Array Oper} {Q : Exit → Act → World → Prop} {S : World → Prop} {listed : Array Bool} {a : Act} {w : World} (hr : Region.ready .any ops listed = []) (h : Q .normal a w) : ∀ fuel, wpAnyL P ops Q S fuel listed a w
  | 0 => ⟨hr, h⟩
  | _ + 1 => ⟨fun _ => h, by rw [hr]; simp⟩
/-- What is listed has what it waits for listed. -/
def Closed (ops : Array Oper) (listed : Array Bool) : Prop := ∀ k ok, ops[k]? = some ok → listed.getD k false = true → ∀ e ∈ ok.after, Region.binds .any e = true → listed.getD e.on false = true
theorem closed_set {ops : Array Oper} {listed : Array Bool} {j : Nat} (h : Closed ops listed) (hj : j ∈ Region.ready .any ops listed) : Closed ops (listed.setIfInBounds j true) := by
  intro k ok hk hl e he hb
  have key : listed.getD e.on false = true → (listed.setIfInBounds j true).getD e.on false = true := fun h0 => by
    by_cases hje : j = e.on
    · subst hje
      rcases Nat.lt_or_ge e.on listed.size with h' | h'
      · simp [h']
      · simp [Array.getElem?_eq_none h'] at h0
    · rw [getD_set_ne false hje]; exact h0
  apply key
  by_cases hjk : j = k
  · subst hjk
    obtain ⟨_, oj, hoj, hall⟩ := mem_ready.1 hj
    rw [hk] at hoj; cases hoj
    exact hall e he hb
  · rw [getD_set_ne false hjk] at hl
    exact h k ok hk hl e he hb
theorem listed_no {listed : Array Bool} {j : Nat} (h1 : listed.getD j false = true) (h2 : listed.getD j true = false) : False := by
  rcases Nat.lt_or_ge j listed.size with h' | h'
  · simp [h'] at h1 h2; rw [h1] at h2; cases h2
  · simp [Array.getElem?_eq_none h'] at h1
theorem before_spec {ops : Array Oper} {listed : Array Bool} (hc : Closed ops listed) {j : Nat} : ∀ (f : Nat) (o : Oper), (∀ e ∈ o.after, Region.binds .any e = true → listed.getD e.on false = true) → before ops f o j = true → listed.getD j false = true
  | 0, _, _, h => by cases h
  | f + 1, o, ho, h => by
    unfold before at h
    rw [Array.any_eq_true'] at h
    obtain ⟨e, he, hcc⟩ := h
    rw [Bool.and_eq_true, Bool.or_eq_true] at hcc
    obtain ⟨hb, h1⟩ := hcc
    rcases h1 with h1 | h1
    · rw [← Nat.eq_of_beq_eq_true h1]; exact ho e he hb
    · split at h1
      · rename_i o' ho'
        exact before_spec hc f o' (fun e' he' hb' => hc e.on o' ho' (ho e he hb) e' he' hb') h1
      · cases h1
theorem last_spec {ops : Array Oper} {listed : Array Bool} {i j : Nat} {o : Oper} (hc : Closed ops listed) (h : last ops i o = true) (ho : ∀ e ∈ o.after, Region.binds .any e = true → listed.getD e.on false = true) (hj : j < ops.size) (hne : j ≠ i) : listed.getD j false = true := by
  unfold last at h
  rw [List.all_eq_true] at h
  have := h j (by simpa using hj)
  have hb : Nat.beq j i = false := by
    cases hb : Nat.beq j i
    · rfl
    · exact absurd (Nat.eq_of_beq_eq_true hb) hne
  rw [hb, Bool.false_or] at this
  exact before_spec hc 2 o ho this
theorem wpAnyL_first {ops : Array Oper} {Q : Exit → Act → World → Prop} {S : World → Prop} {i : Nat} {oi : Oper} {v : Value} (hi : ops[i]? = some oi) (hsel : ∀ (j : Nat) (o : Oper) cs b, ops[j]? = some o → o.op ≠ .select cs b)
    (hQ : ∀ c a w, Q (.panic c) (a.put oi.dst v) w → Q (.panic c) a w) :
    ∀ (fuel : Nat) (listed : Array Bool) (a : Act) (w : World),
      (∀ j oj, ops[j]? = some oj → j ≠ i → listed.getD j true = false → (∀ e ∈ oj.after, Region.binds .any e = true → e.on ≠ i) → oi.apart ops oj = true) →
      Closed ops listed → i ∈ Region.ready .any ops listed → YieldsIf P ops S oi v a → S w →
      wpAnyL P ops Q S fuel (listed.setIfInBounds i true) (a.put oi.dst v) w → wpAnyL P ops Q S (fuel + 1) listed a w := by
  intro fuel
  induction fuel with
  | zero =>
    intro listed a w _ _ hr hy hS H
    refine ⟨fun h => (by rw [h] at hr; cases hr), fun j hj => ?_⟩
    by_cases hji : j = i
    · subst hji; exact hy.wpOp hi hS ⟨Or.inr hS, H⟩
    · have := ready_mono hj hji
      rw [H.1] at this
      cases this
  | succ fuel ih =>
    intro listed a w hfree hcl hr hy hS H
    refine ⟨fun h => (by rw [h] at hr; cases hr), fun j hj => ?_⟩
    by_cases hji : j = i
    · subst hji; exact hy.wpOp hi hS ⟨Or.inr hS, H⟩
    · have h1 := H.2 j (ready_mono hj hji)
      obtain ⟨hjun, oj, hoj, hall⟩ := mem_ready.1 hj
      have hnot : ∀ e ∈ oj.after, Region.binds .any e = true → e.on ≠ i := fun e he hb heq => by
        have h1 := hall e he hb
        have h0 := (mem_ready.1 hr).1
        rw [heq] at h1
        rcases Nat.lt_or_ge i listed.size with h' | h'
        · simp [h'] at h0 h1; rw [h0] at h1; cases h1
        · simp [Array.getElem?_eq_none h'] at h1
      have hnl : ¬ ∃ o, ops[j]? = some o ∧ last ops j o = true := by
        rintro ⟨o, ho, hl⟩
        rw [hoj] at ho
        injection ho with ho
        subst ho
        have hlt : i < ops.size := by
          rcases Nat.lt_or_ge i ops.size with h' | h'
          · exact h'
          · simp [Array.getElem?_eq_none h'] at hi
        have hli := last_spec hcl hl hall hlt (Ne.symm hji)
        exact listed_no hli (mem_ready.1 hr).1
      have h2 := wpOp_putIf hoj (hfree j oj hoj hji hjun hnot) (fun cs b => hsel i oi cs b hi) (fun cs b => hsel j oj cs b hoj) hQ hy h1
      have hfree' : ∀ k ok, ops[k]? = some ok → k ≠ i → (listed.setIfInBounds j true).getD k true = false →
          (∀ e ∈ ok.after, Region.binds .any e = true → e.on ≠ i) → oi.apart ops ok = true := fun k ok hk hki hun hno => by
        refine hfree k ok hk hki ?_ hno
        by_cases hjk : j = k
        · subst hjk; exact hjun
        · rw [getD_set_ne true hjk] at hun; exact hun
      refine wpOp_mono (fun a' w' h3 => ?_) h2
      obtain ⟨hy3, hS3, hW3⟩ := h3
      have hS4 : S w' := hS3.resolve_left hnl
      refine ⟨Or.inr hS4, ih (listed.setIfInBounds j true) a' w' hfree' (closed_set hcl hj) (ready_mono hr (Ne.symm hji)) hy3 hS4 ?_⟩
      rw [Array.setIfInBounds_comm _ _ hji]
      exact hW3
theorem firstLook_spec {ops : Array Oper} : ∀ {rs : List Nat} {i : Nat}, firstLook ops rs = some i → i ∈ rs ∧ ∃ o, ops[i]? = some o ∧ looks o.op = true
  | [], _, h => by simp [firstLook] at h
  | j :: r, i, h => by
    simp only [firstLook] at h
    split at h
    · rename_i o ho
      split at h
      · rename_i hl
        simp only [Option.some.injEq] at h
        subst h
        exact ⟨by simp, o, ho, hl⟩
      · obtain ⟨h1, h2⟩ := firstLook_spec h; exact ⟨by simp [h1], h2⟩
    · obtain ⟨h1, h2⟩ := firstLook_spec h; exact ⟨by simp [h1], h2⟩
theorem vcAll_spec : ∀ {rs : List Nat} {k : Nat → Prop}, vcAll rs k → ∀ i ∈ rs, k i
  | [], _, _, _, h => by cases h
  | [j], k, h, i, hi => by
    simp only [List.mem_singleton] at hi
    subst hi; exact h
  | j :: l :: r, k, h, i, hi => by
    rcases List.mem_cons.1 hi with rfl | hi
    · exact h.1
    · exact vcAll_spec h.2 i hi
theorem mem_toList_of {ops : Array Oper} {i : Nat} {o : Oper} (h : ops[i]? = some o) : o ∈ ops.toList := by
  have : ops.toList[i]? = some o := by simpa using h
  exact List.mem_of_getElem? this
theorem vcD_sound (hT : TabOk P T) {N : Nat} {ops : Array Oper} {K : Env → World → Prop} {Q : Exit → Act → World → Prop} {ds : List Nat} (hds : ∀ o ∈ ops.toList, ∀ s, o.dst = some s → s < N ∧ s ∈ ds)
    (hsel : Region.noSelect ops = true) {M : (World → Prop) → Prop} {S : World → Prop} (hM : ∀ φ, M φ → ∀ w, S w → φ w) (hQ : ∀ c a w, ¬ Q (.panic c) a w) :
    ∀ (fuel : Nat) (listed : Array Bool) (E : Env) (a : Act) (w : World), Closed ops listed → Rep N none_ E a → (S w ∨ Region.ready .any ops listed = []) → vcD P T M S ops fuel listed E w K →
      (∀ E' a' w', Rep N none_ E' a' → Keeps ds a a' → K E' w' → Wsame w w' → Q .normal a' w') → wpAnyL P ops Q S fuel listed a w
  | 0, listed, E, a, w, _, hr, _, h, hK => by
    simp only [vcD] at h
    split at h
    · rename_i hrs; exact ⟨hrs, hK E a w hr (Keeps.refl _ _) h (Wsame.refl w)⟩
    · exact h.elim
  | fuel + 1, listed, E, a, w, hcl, hr, hS, h, hK => by
    simp only [vcD] at h
    split at h
    · rename_i hrs; exact wpAnyL_done hrs (hK E a w hr (Keeps.refl _ _) h (Wsame.refl w)) _
    · rename_i hne
      have hne' : Region.ready .any ops listed ≠ [] := fun e => hne e
      have hSw : S w := hS.resolve_right hne'
      split at h
      · rename_i i hfl
        obtain ⟨hi, o, ho, hlook⟩ := firstLook_spec hfl
        split at h
        · rename_i o' ho' hfree
          rw [ho] at ho'
          injection ho' with ho'
          subst ho'
          have hd := hds o (mem_toList_of ho)
          have hstep : ∀ v, YieldsIf P ops S o v a → wpAnyL P ops Q S fuel (listed.setIfInBounds i true) (a.put o.dst v) w → wpAnyL P ops Q S (fuel + 1) listed a w :=
            fun v hy hW => wpAnyL_first ho (Region.noSelect_spec hsel) (fun c a' w' hq => absurd hq (hQ c _ w')) fuel listed a w (Region.free_spec ho hfree) hcl hi hy hSw hW
          have hK' : ∀ v, ∀ E' a' w', Rep N none_ E' a' → Keeps ds (a.put o.dst v) a' → K E' w' → Wsame w w' → Q .normal a' w' :=
            fun v E' a' w' h1 h2 h3 h4 => hK E' a' w' h1 ((Keeps.put (fun s e => (hd s e).2) v).trans h2) h3 h4
          rcases vcG_sound hr h with ⟨hw, E', hrep, hy⟩ | ⟨hw, E', hrep, hn⟩
          · obtain ⟨v, hrun, hk⟩ := vcS_sound hT hM hrep (fun _ _ f => f) hy
            exact hstep v (Or.inl ⟨hw, hrun⟩) (vcD_sound hT hds hsel hM hQ fuel _ _ _ w (closed_set hcl hi) (hrep.put (fun s e => (hd s e).1) v) (Or.inl hSw) hk (hK' v))
          · exact hstep undef (Or.inr ⟨hw, rfl⟩) (vcD_sound hT hds hsel hM hQ fuel _ _ _ w (closed_set hcl hi) (hrep.put (fun s e => (hd s e).1) undef) (Or.inl hSw) hn (hK' undef))
        · exact h.elim
      · refine ⟨fun e => absurd e hne', fun i hi => ?_⟩
        have hk := vcAll_spec h i hi
        obtain ⟨hiun, o, ho, hoall⟩ := mem_ready.1 hi
        rw [ho] at hk
        simp only [] at hk
        have hd := hds o (mem_toList_of ho)
        have hK' : ∀ v w0, Wsame w w0 → ∀ E' a' w', Rep N none_ E' a' → Keeps ds (a.put o.dst v) a' → K E' w' → Wsame w0 w' → Q .normal a' w' :=
          fun v w0 hs E' a' w' h1 h2 h3 h4 => hK E' a' w' h1 ((Keeps.put (fun s e => (hd s e).2) v).trans h2) h3 (hs.trans h4)
        unfold wpOp
        simp only [ho]
        have hlastready : last ops i o = true → Region.ready .any ops (listed.setIfInBounds i true) = [] := by
          intro hl
          cases hrd : Region.ready .any ops (listed.setIfInBounds i true) with
          | nil => rfl
          | cons j js =>
            exfalso
            have hj : j ∈ Region.ready .any ops (listed.setIfInBounds i true) := by rw [hrd]; simp
            obtain ⟨hjun, oj, hoj, _⟩ := mem_ready.1 hj
            have hji : j ≠ i := by
              rintro rfl
              have hun := (mem_ready.1 hi).1
              rcases Nat.lt_or_ge j listed.size with h' | h'
              · simp [h'] at hjun
              · simp [Array.getElem?_eq_none h'] at hun
            have hlt : j < ops.size := by
              rcases Nat.lt_or_ge j ops.size with h' | h'
              · exact h'
              · simp [Array.getElem?_eq_none h'] at hoj
            have hli := last_spec hcl hl hoall hlt hji
            rw [getD_set_ne true (Ne.symm hji)] at hjun
            exact listed_no hli hjun
        rcases vcG_sound hr hk with ⟨hw, E', hrep, hy⟩ | ⟨hw, E', hrep, hn⟩
        · rw [if_pos hw]
          refine .inl (vcE_sound hT hrep (fun s e => (hd s e).1) (fun _ _ f => f) hy fun E'' v w' hr'' hk'' _ hs => ?_)
          split at hk''
          · rename_i hl
            exact ⟨Or.inl ⟨o, rfl, hl⟩, vcD_sound hT hds hsel hM hQ fuel _ _ _ w' (closed_set hcl hi) hr'' (Or.inr (hlastready hl)) hk'' (hK' v w' hs)⟩
          · exact ⟨Or.inr hk''.1, vcD_sound hT hds hsel hM hQ fuel _ _ _ w' (closed_set hcl hi) hr'' (Or.inl hk''.1) hk''.2 (hK' v w' hs)⟩
        · rw [if_neg (by rw [hw]; simp)]
          exact ⟨Or.inr hSw, vcD_sound hT hds hsel hM hQ fuel _ _ _ w (closed_set hcl hi) (hrep.put (fun s e => (hd s e).1) undef) (Or.inl hSw) hn (hK' undef w (Wsame.refl w))⟩
end
end Go.Vc
/- The verification condition is sound: code, functions. -/
namespace Go.Vc
open Go
theorem closed_start (ops : Array Oper) : Closed ops (Array.replicate ops.size false) := fun k ok hk hl => by
  have : k < ops.size := by
    rcases Nat.lt_or_ge k ops.size with h | h
    · exact h
    · simp [Array.getElem?_eq_none h] at hk
  simp [this] at hl
section
variable {P : Program} {T : Tab}
/-! slots that are carried -/
theorem mem_iff : ∀ {l : List Nat} {x : Nat}, mem x l = true ↔ x ∈ l
  | [], x => by simp [mem]
  | y :: r, x => by
    simp only [mem, List.mem_cons]
    cases hb : Nat.beq x y with
    | true => simp [Nat.eq_of_beq_eq_true hb]
    | false =>
      have : x ≠ y := fun e => by rw [e, Nat.beq_refl] at hb; cases hb
      simp [this, mem_iff (l := r)]
theorem carried_spec (E : Env) : ∀ (l seen : List Nat) (s : Nat), s ∈ carried E l seen → s ∈ l
  | [], _, _, h => by simp [carried] at h
  | d :: r, seen, s, h => by
    simp only [carried] at h
    split at h
    · exact List.mem_cons_of_mem _ (carried_spec E r _ s h)
    · split at h
      · rcases List.mem_cons.1 h with rfl | h
        · simp
        · exact List.mem_cons_of_mem _ (carried_spec E r _ s h)
      · exact List.mem_cons_of_mem _ (carried_spec E r _ s h)
theorem opd_tmp {E : Env} {s : Nat} {v : Value} (h : opd E (.tmp s) = some v) : s < 1000000 ∧ get E s = some v := by
  simp only [opd] at h
  split at h
  · rename_i hb; rw [Nat.blt_eq] at hb; exact ⟨hb, h⟩
  · cases h
theorem get_drop {ds : List Nat} : ∀ {E : Env} {s : Nat} {v : Value}, get (drop ds E) s = some v → s ∉ ds ∧ get E s = some v
  | [], s, v, h => by simp [drop, get] at h
  | p :: r, s, v, h => by
    obtain ⟨k, u⟩ := p
    simp only [drop] at h
    cases hm : mem k ds with
    | true =>
      rw [hm] at h
      obtain ⟨h1, h2⟩ := get_drop h
      refine ⟨h1, ?_⟩
      have : k ≠ s := fun e => h1 (e ▸ mem_iff.1 hm)
      rw [get_cons_ne _ _ this]; exact h2
    | false =>
      rw [hm] at h
      simp only [] at h
      by_cases e : k = s
      · subst e
        rw [get_cons_eq] at h ⊢
        exact ⟨fun hc => (by rw [mem_iff.2 hc] at hm; cases hm), h⟩
      · rw [get_cons_ne _ _ e] at h ⊢
        exact get_drop h
theorem get_putAll {E : Env} : ∀ {cs : List Nat} {vs : List Value} {s : Nat} {v : Value}, get (putAll cs vs E) s = some v → (∃ i : Nat, cs[i]? = some s ∧ vs[i]? = some v) ∨ get E s = some v
  | [], _, _, _, h => Or.inr (by simpa [putAll] using h)
  | _ :: _, [], _, _, h => Or.inr (by simpa [putAll] using h)
  | c :: cs, u :: vs, s, v, h => by
    simp only [putAll] at h
    by_cases e : c = s
    · subst e
      rw [get_cons_eq] at h
      exact Or.inl ⟨0, by simp, by simpa using h⟩
    · rw [get_cons_ne _ _ e] at h
      rcases get_putAll h with ⟨i, h1, h2⟩ | h
      · exact Or.inl ⟨i + 1, by simpa using h1, by simpa using h2⟩
      · exact Or.inr h
theorem getAll_spec {E : Env} : ∀ {cs : List Nat} {vs : List Value}, getAll E cs = some vs → ∀ {i s : Nat} {v : Value}, cs[i]? = some s → vs[i]? = some v → opd E (.tmp s) = some v
  | [], vs, h, i, s, v, h1, _ => by simp at h1
  | c :: cs, vs, h, i, s, v, h1, h2 => by
    simp only [getAll] at h
    cases ho : opd E (.tmp c) with
    | none => simp [ho] at h
    | some u =>
      cases hg : getAll E cs with
      | none => simp [ho, hg] at h
      | some l =>
        simp only [ho, hg, Option.some.injEq] at h
        subst h
        cases i with
        | zero =>
          simp only [List.getElem?_cons_zero, Option.some.injEq] at h1 h2
          subst h1; subst h2; exact ho
        | succ i => exact getAll_spec hg (by simpa using h1) (by simpa using h2)
theorem getAll_map {N : Nat} {E : Env} {a : Act} (hr : Rep N none_ E a) : ∀ {cs : List Nat} {vs : List Value}, getAll E cs = some vs → cs.map (fun s => a.tmps.getD s undef) = vs
  | [], vs, h => by simpa [getAll] using h
  | c :: cs, vs, h => by
    simp only [getAll] at h
    cases ho : opd E (.tmp c) with
    | none => simp [ho] at h
    | some u =>
      cases hg : getAll E cs with
      | none => simp [ho, hg] at h
      | some l =>
        simp only [ho, hg, Option.some.injEq] at h
        subst h
        obtain ⟨h1, h2⟩ := opd_tmp ho
        rw [List.map_cons, getD_of (hr.at_ c u h2 h1 (fun f => f)), getAll_map hr hg]
def okDs (N : Nat) (ds : List Nat) : Prop := ∀ s ∈ ds, s < N
theorem vc_sound (hT : TabOk P T) {N : Nat} : ∀ (c : Code) (E : Env) (w : World) (K : Env → World → Prop) (X : Nat → Env → World → Prop) (R : Env → World → Prop) (Q : Exit → Act → World → Prop) (a : Act),
    okDs N (dsts c) → Rep N none_ E a → vc P T c E w K X R →
    (∀ E' a' w', Rep N none_ E' a' → Keeps (dsts c) a a' → K E' w' → Wsame w w' → Q .normal a' w') →
    (∀ i E' a' w', Rep N none_ E' a' → Keeps (dsts c) a a' → X i E' w' → Wsame w w' → Q (.exit i) a' w') →
    (∀ E' a' w', Rep N none_ E' a' → Keeps (dsts c) a a' → R E' w' → Wsame w w' → Q .ret a' w') → c.wp P Q a w := by
  intro c
  induction c with
  | skip => intro E w K X R Q a _ hr h hK _ _; exact wp_skip (hK E a w hr (Keeps.refl _ _) h (Wsame.refl w))
  | label l => intro E w K X R Q a _ hr h hK _ _; exact wp_label (hK E a w hr (Keeps.refl _ _) h (Wsame.refl w))
  | exit i => intro E w K X R Q a _ hr h _ hX _; exact wp_exit (hX i E a w hr (Keeps.refl _ _) h (Wsame.refl w))
  | ret => intro E w K X R Q a _ hr h _ _ hR; exact wp_ret (hR E a w hr (Keeps.refl _ _) h (Wsame.refl w))
  | goto l => intro E w K X R Q a _ _ h _ _ _; exact h.elim
  | refuse l => intro E w K X R Q a _ _ h _ _ _; exact h.elim
  | rangeFunc f p x y => intro E w K X R Q a _ _ h _ _ _; exact h.elim
  | seq x y ihx ihy =>
    intro E w K X R Q a hd hr h hK hX hR
    have hdx : okDs N (dsts x) := fun s hs => hd s (by simp [dsts, hs])
    have hdy : okDs N (dsts y) := fun s hs => hd s (by simp [dsts, hs])
    have mx : ∀ {a a' : Act}, Keeps (dsts x) a a' → Keeps (dsts (.seq x y)) a a' := fun k => k.mono fun s hs => by simp [dsts, hs]
    have my : ∀ {a a' : Act}, Keeps (dsts y) a a' → Keeps (dsts (.seq x y)) a a' := fun k => k.mono fun s hs => by simp [dsts, hs]
    refine wp_seq (ihx E w (fun E w => vc P T y E w K X R) X R _ a hdx hr h ?_ ?_ ?_)
    · intro E' a' w' h1 h2 h3 h4
      exact ihy E' w' K X R Q a' hdy h1 h3 (fun E'' a'' w'' k1 k2 k3 k4 => hK E'' a'' w'' k1 ((mx h2).trans (my k2)) k3 (h4.trans k4))
        (fun i E'' a'' w'' k1 k2 k3 k4 => hX i E'' a'' w'' k1 ((mx h2).trans (my k2)) k3 (h4.trans k4)) (fun E'' a'' w'' k1 k2 k3 k4 => hR E'' a'' w'' k1 ((mx h2).trans (my k2)) k3 (h4.trans k4))
    · intro i E' a' w' h1 h2 h3 h4; exact hX i E' a' w' h1 (mx h2) h3 h4
    · intro E' a' w' h1 h2 h3 h4; exact hR E' a' w' h1 (mx h2) h3 h4
  | cond o x y ihx ihy =>
    intro E w K X R Q a hd hr h hK hX hR
    have hdx : okDs N (dsts x) := fun s hs => hd s (by simp [dsts, hs])
    have hdy : okDs N (dsts y) := fun s hs => hd s (by simp [dsts, hs])
    have mx : ∀ {a a' : Act}, Keeps (dsts x) a a' → Keeps (dsts (.cond o x y)) a a' := fun k => k.mono fun s hs => by simp [dsts, hs]
    have my : ∀ {a a' : Act}, Keeps (dsts y) a a' → Keeps (dsts (.cond o x y)) a a' := fun k => k.mono fun s hs => by simp [dsts, hs]
    have gox : ∀ E1, Rep N none_ E1 a → vc P T x E1 w K X R → x.wp P Q a w := fun E1 hr1 h1 => ihx E1 w K X R Q a hdx hr1 h1 (fun _ _ _ k1 k2 k3 k4 => hK _ _ _ k1 (mx k2) k3 k4) (fun _ _ _ _ k1 k2 k3 k4 => hX _ _ _ _ k1 (mx k2) k3 k4) (fun _ _ _ k1 k2 k3 k4 => hR _ _ _ k1 (mx k2) k3 k4)
    have goy : ∀ E1, Rep N none_ E1 a → vc P T y E1 w K X R → y.wp P Q a w := fun E1 hr1 h1 => ihy E1 w K X R Q a hdy hr1 h1 (fun _ _ _ k1 k2 k3 k4 => hK _ _ _ k1 (my k2) k3 k4) (fun _ _ _ _ k1 k2 k3 k4 => hX _ _ _ _ k1 (my k2) k3 k4) (fun _ _ _ k1 k2 k3 k4 => hR _ _ _ k1 (my k2) k3 k4)
    simp only [vc] at h
    split at h
    · rename_i s t ho
      have hE := (opd_tmp ho).2
      have he := hr.opd ho (fun _ _ f => f)
      cases t
      · exact wp_cond_false he (goy _ (hr.same hE rfl) h)
      · exact wp_cond_true he (gox _ (hr.same hE rfl) h)
    · rename_i v t ho
      have he := hr.opd ho (fun _ _ f => f)
      cases t
      · exact wp_cond_false he (goy _ hr h)
      · exact wp_cond_true he (gox _ hr h)
    · exact h.elim
  | block id x ih =>
    intro E w K X R Q a hd hr h hK hX hR
    refine wp_block (ih E w K _ R _ a hd hr h (fun E' a' w' k1 k2 k3 k4 => hK E' a' w' k1 k2 k3 k4) ?_ (fun E' a' w' k1 k2 k3 k4 => hR E' a' w' k1 k2 k3 k4))
    intro i E' a' w' k1 k2 k3 k4
    simp only [Exit.inBlock]
    cases hb : Nat.beq i id with
    | true =>
      rw [hb] at k3
      rw [if_pos (Nat.eq_of_beq_eq_true hb)]
      exact hK E' a' w' k1 k2 k3 k4
    | false =>
      rw [hb] at k3
      have : i ≠ id := fun e => by rw [e, Nat.beq_refl] at hb; cases hb
      rw [if_neg this]
      exact hX i E' a' w' k1 k2 k3 k4
  | scope x ih =>
    intro E w K X R Q a hd hr h hK hX hR
    exact wp_scope_straight (ih E w K X R _ a hd hr h (fun E' a' w' k1 k2 k3 k4 => hK E' a' w' k1 k2 k3 k4) (fun i E' a' w' k1 k2 k3 k4 => hX i E' a' w' k1 k2 k3 k4) (fun E' a' w' k1 k2 k3 k4 => hR E' a' w' k1 k2 k3 k4))
  | region id ops draw =>
    intro E w K X R Q a hd hr h hK hX hR
    have hds : ∀ o ∈ ops.toList, ∀ s, o.dst = some s → s < N ∧ s ∈ dsts (.region id ops draw) := by
      intro o ho s hs
      have : s ∈ dsts (.region id ops draw) := by
        simp only [dsts, List.mem_filterMap]
        exact ⟨o, ho, hs⟩
      exact ⟨hd s this, this⟩
    cases draw with
    | false =>
      simp only [vc] at h
      refine wp_region ?_
      have := vcOps_sound (Q := Q) hT hds ops.toList 0 E a w (by simp) hr h (fun E' a' w' k1 k2 k3 k4 => hK E' a' w' k1 k2 k3 k4)
      rw [List.range_eq_range']
      simpa using this
    | true =>
      simp only [vc] at h
      let Q' : Exit → Act → World → Prop := fun e a w => match e with
        | .normal => Q .normal a w
        | _ => False
      have hQ' : ∀ c a w, ¬ Q' (.panic c) a w := fun _ _ _ f => f
      refine wp_mono (Q := Q') ?_ (fun e a w hq => by cases e <;> first | exact hq | exact hq.elim)
      refine wp_region_any hT.mixed ?_
      split at h
      · rename_i hsel hall
        exact wpAny_of_L _ _ _ _ (vcD_sound (Q := Q') (S := fun w' => w' = w.drew) hT hds hsel (fun φ hφ w' e => e ▸ hφ) hQ' _ _ E a w.drew (closed_start _) hr (Or.inl rfl) h (fun E' a' w' k1 k2 k3 k4 => hK E' a' w' k1 k2 k3 ⟨k4.os, k4.tape, k4.output⟩))
      · rename_i hsel hall
        obtain ⟨S, hS, h⟩ := h
        exact wpAny_of_L _ _ _ _ (vcD_sound (Q := Q') (S := S) hT hds hsel (fun φ hφ w' e => hφ w' e) hQ' _ _ E a w.drew (closed_start _) hr (Or.inl hS) h (fun E' a' w' k1 k2 k3 k4 => hK E' a' w' k1 k2 k3 ⟨k4.os, k4.tape, k4.output⟩))
      · exact h.elim
  | loop x ih =>
    intro E w K X R Q a hd hr h hK hX hR
    simp only [vc] at h
    generalize hcs : carried E (dsts x) [] = cs at h
    have hsub : ∀ s, s ∈ cs → s ∈ dsts x := fun s hs => carried_spec E (dsts x) [] s (hcs ▸ hs)
    split at h
    · rename_i vs hvs
      split at h
      · rename_i shs hshs
        obtain ⟨x₀, hx₀, h⟩ := onO_elim h
        obtain ⟨I, μ, hI, hround⟩ := h
        have repOf : ∀ {a' : Act} (y : HT shs), a'.defers = [] → a'.tmps.size = N → (∀ (i s : Nat) (v : Value), cs[i]? = some s → (HT.vals shs y)[i]? = some v → s < 1000000 → a'.tmps[s]? = some v) → Keeps (dsts x) a a' → Rep N none_ (putAll cs (HT.vals shs y) (drop (dsts x) E)) a' := by
          intro a' y h1 h2 h3 h4
          refine ⟨h1, h2, fun s v hg hl _ => ?_⟩
          rcases get_putAll hg with ⟨i, e1, e2⟩ | hg
          · exact h3 i s v e1 e2 hl
          · obtain ⟨hn, hg⟩ := get_drop hg
            rw [h4 s hn]
            exact hr.at_ s v hg hl (fun f => f)
        let I' : Act → World → Prop := fun a' w' => ∃ y : HT shs, Rep N none_ (putAll cs (HT.vals shs y) (drop (dsts x) E)) a' ∧ Keeps (dsts x) a a' ∧ cs.map (fun s => a'.tmps.getD s undef) = HT.vals shs y ∧ I y w' ∧ Wsame w w'
        let μ' : Act → World → Nat := fun a' w' => match HT.dec shs (cs.map fun s => a'.tmps.getD s undef) with
          | some y => μ y w'
          | none => 0
        refine wp_loop I' μ' ⟨x₀, ?_, Keeps.refl _ _, ?_, hI, Wsame.refl w⟩ ?_
        · refine repOf x₀ hr.defers hr.size ?_ (Keeps.refl _ _)
          intro i s v h1 h2 h3
          rw [HT.vals_dec shs vs x₀ hx₀] at h2
          exact hr.at_ s v (opd_tmp (getAll_spec hvs h1 h2)).2 h3 (fun f => f)
        · rw [HT.vals_dec shs vs x₀ hx₀]; exact getAll_map hr hvs
        · rintro a1 w1 ⟨y, hrep, hkeep, hmap, hIy, hws⟩
          refine ih _ w1 _ X R _ a1 hd hrep (hround y w1 hIy) ?_ ?_ ?_
          · intro E' a' w' k1 k2 k3 k4
            split at k3
            · rename_i vs' hvs'
              obtain ⟨y', hy', hI', hμ⟩ := onO_elim k3
              have hv' := HT.vals_dec shs vs' y' hy'
              have hmap' := getAll_map k1 hvs'
              refine ⟨⟨y', ?_, hkeep.trans k2, by rw [hmap', hv'], hI', hws.trans k4⟩, ?_⟩
              · refine repOf y' k1.defers k1.size ?_ (hkeep.trans k2)
                intro i s v h1 h2 h3
                rw [hv'] at h2
                exact k1.at_ s v (opd_tmp (getAll_spec hvs' h1 h2)).2 h3 (fun f => f)
              · simp only [μ', hmap', hmap, hy', HT.dec_vals]
                exact hμ
            · exact k3.elim
          · intro i E' a' w' k1 k2 k3 k4; exact hX i E' a' w' k1 (hkeep.trans k2) k3 (hws.trans k4)
          · intro E' a' w' k1 k2 k3 k4; exact hR E' a' w' k1 (hkeep.trans k2) k3 (hws.trans k4)
      · exact h.elim
    · exact h.elim
/-! ### Functions -/
theorem vcRes_sound (hT : TabOk P T) {N : Nat} {E : Env} {a : Act} {w : World} (hr : Rep N none_ E a) (g : ResultVar → Sem Value) (g1 : ∀ t, g (.tmp t) = pure (a.tmps.getD t undef)) (g2 : ∀ x t, g (.cell x t) = (do loadVar t (← asAddr (a.tmps.getD x undef)))) :
    ∀ (l : List ResultVar) (k : List Value → Prop), vcRes T E w l k → ∃ vs, k vs ∧ (l.mapM g).run P w = .ok vs w
  | [], k, h => ⟨[], h, rfl⟩
  | .tmp t :: r, k, h => by
    obtain ⟨v, hv, h⟩ := onV_elim h
    obtain ⟨vs, hk, hrun⟩ := vcRes_sound hT hr g g1 g2 r _ h
    have he := hr.opd hv (fun _ _ f => f)
    refine ⟨v :: vs, hk, ?_⟩
    rw [List.mapM_cons, g1]
    rw [bind_ok (run_pure P (a.tmps.getD t undef) w), bind_ok hrun]
    show (pure (_ :: _) : Sem (List Value)).run P w = _
    rw [show a.tmps.getD t undef = v from he]; rfl
  | .cell x t :: r, k, h => by
    simp only [vcRes] at h
    split at h
    · rename_i p i hx ht
      obtain ⟨ad, rfl, y, hc, h⟩ := onP_elim h
      obtain ⟨vs, hk, hrun⟩ := vcRes_sound hT hr g g1 g2 r _ h
      have he := hr.opd hx (fun _ _ f => f)
      refine ⟨i.ty.v y :: vs, hk, ?_⟩
      rw [List.mapM_cons, g2]
      have h1 : (do loadVar t (← asAddr (a.tmps.getD x undef)) : Sem Value).run P w = .ok (i.ty.v y) w := by
        rw [show a.tmps.getD x undef = .pointer (some ad) from he]
        rw [bind_ok (show (asAddr (.pointer (some ad))).run P w = .ok ad w from rfl)]
        exact run_loadVar (hT.ty _ _ ht) y hc
      rw [bind_ok h1, bind_ok hrun]; rfl
    · exact h.elim
theorem args_get : ∀ (as : List Value) (i s : Nat) (v : Value), get (args i as) s = some v → ∃ j, s = i + j ∧ as[j]? = some v
  | [], _, _, _, h => by simp [args, get] at h
  | u :: r, i, s, v, h => by
    simp only [args] at h
    by_cases e : i = s
    · subst e
      rw [get_cons_eq] at h
      exact ⟨0, rfl, by simpa using h⟩
    · rw [get_cons_ne _ _ e] at h
      obtain ⟨j, h1, h2⟩ := args_get r (i + 1) s v h
      exact ⟨j + 1, by omega, by simpa using h2⟩
/-- **A function's condition gives what its calls come to.** -/
theorem calls_of_vc (hT : TabOk P T) {f : FuncId} {fn : Func} (hf : P.funcs[f]? = some fn) {rs : List Ty} {av : List Value} (hok : okFn fn av.length = true) {w : World} {post : RT rs → World → Prop}
    (h : vcF P T fn rs av w post) : callsR P f av.toArray rs w post := by
  unfold vcF at h
  unfold okFn at hok
  cases hb : fn.body with
  | none => rw [hb] at h; exact h.elim
  | some c =>
    rw [hb] at h hok
    simp only [Bool.and_eq_true, List.all_eq_true] at h hok
    obtain ⟨hds, hlen⟩ := hok
    have hlen : av.length ≤ fn.ntmps := Nat.le_of_ble_eq_true hlen
    unfold callsR
    refine calls_of_wp hf hb ?_
    have hrep : Rep fn.ntmps none_ (args 0 av) { tmps := av.toArray ++ Array.replicate (fn.ntmps - av.toArray.size) undef, defers := [] } := by
      refine ⟨rfl, by simp; omega, fun s v hg _ _ => ?_⟩
      obtain ⟨j, h1, h2⟩ := args_get av 0 s v hg
      have h1 : s = j := by omega
      subst h1
      have : s < av.length := by
        rcases Nat.lt_or_ge s av.length with e | e
        · exact e
        · simp [List.getElem?_eq_none e] at h2
      rw [Array.getElem?_append_left (by simpa using this)]
      simpa using h2
    have hRes : ∀ E' a' w', Rep fn.ntmps none_ E' a' → vcRes T E' w' fn.results.toList (fun l => onO (RT.dec rs l) fun x => post x w') → Wsame w w' →
        a'.defers = [] ∧ ∃ v, (results fn a'.tmps).run P w' = .ok v w' ∧ Wsame w w' ∧ ∃ x : RT rs, Ending.returned v = .returned (RT.ret rs x) ∧ post x w' := by
      intro E' a' w' hr hres hws
      obtain ⟨vs, hk, hrun⟩ := vcRes_sound hT hr (fun | .tmp t => pure (a'.tmps.getD t undef) | .cell x t => do loadVar t (← asAddr (a'.tmps.getD x undef))) (fun _ => rfl) (fun _ _ => rfl) _ _ hres
      obtain ⟨x, hx, hp⟩ := onO_elim hk
      refine ⟨hr.defers, RT.ret rs x, ?_, hws, x, rfl, hp⟩
      unfold results
      rw [Array.mapM_eq_mapM_toList]
      have := bind_ok (f := fun vs => (pure (if h : vs.toArray.size = 1 then vs.toArray[0] else Value.tuple vs.toArray) : Sem Value)) hrun
      rw [map_eq_pure_bind, bind_assoc]
      refine this.trans ?_
      have hv := RT.vals_dec rs vs x hx
      unfold RT.ret
      rw [hv]
      cases vs with
      | nil => rfl
      | cons v r => cases r <;> rfl
    refine vc_sound hT c (args 0 av) w _ _ _ _ _ (fun s hs => by have := hds s hs; rw [Nat.blt_eq] at this; exact this) hrep h ?_ ?_ ?_
    · intro E' a' w' k1 _ k3 k4
      exact hRes E' a' w' k1 k3 k4
    · intro i E' a' w' _ _ k3 _; exact k3.elim
    · intro E' a' w' k1 _ k3 k4
      exact hRes E' a' w' k1 k3 k4
end
end Go.Vc
/- Tables of types and functions, checked by computation. -/
namespace Go.Vc
open Go
inductive Tr (α : Type) where
  | leaf
  | node (l : Tr α) (k : Nat) (v : α) (r : Tr α)
def Tr.find {α : Type} : Tr α → Nat → Option α
  | .leaf, _ => none
  | .node l k v r, t => match Nat.beq t k with
    | true => some v
    | false => match Nat.blt t k with
      | true => l.find t
      | false => r.find t
def Tr.all {α : Type} (p : Nat → α → Bool) : Tr α → Bool
  | .leaf => true
  | .node l k v r => p k v && (l.all p && r.all p)
theorem Tr.all_find {α : Type} {p : Nat → α → Bool} : ∀ {t : Tr α} {k : Nat} {v : α}, t.all p = true → t.find k = some v → p k v = true
  | .leaf, _, _, _, h => by simp [Tr.find] at h
  | .node l k' v' r, k, v, ha, h => by
    simp only [Tr.all, Bool.and_eq_true] at ha
    simp only [Tr.find] at h
    cases hb : Nat.beq k k' with
    | true =>
      rw [hb] at h
      simp only [Option.some.injEq] at h
      subst h
      rw [Nat.eq_of_beq_eq_true hb]; exact ha.1
    | false =>
      rw [hb] at h
      simp only [] at h
      split at h
      · exact Tr.all_find ha.2.1 h
      · exact Tr.all_find ha.2.2 h
def kindB (k k' : IntKind) : Bool := match decEq k k' with | .isTrue _ => true | .isFalse _ => false
theorem kindB_eq {k k' : IntKind} (h : kindB k k' = true) : k = k' := by
  unfold kindB at h
  split at h
  · assumption
  · cases h
def cellB : Value → Sh → Bool
  | .int k (.ofNat 0), .int k' => kindB k k'
  | .bool false, .bool => true
  | .pointer none, .ptr => true
  | .slice none 0 0, .slice => true
  | .map none, .map => true
  | .string s, .str => match s.data.toList with
    | [] => true
    | _ => false
  | .nilFunc, .func => true
  | .nilIface, .iface => true
  | _, _ => false
theorem cellB_eq {v : Value} {s : Sh} (h : cellB v s = true) : v = s.zero := by
  unfold cellB at h
  split at h <;> first
    | rfl
    | (rw [kindB_eq h]; rfl)
    | (rename_i s; split at h
       · rename_i hs
         obtain ⟨⟨d⟩⟩ := s
         simp only at hs
         subst hs; rfl
       · cases h)
    | cases h
def cellsB : List Value → List Sh → Bool
  | [], [] => true
  | v :: r, s :: l => cellB v s && cellsB r l
  | _, _ => false
theorem cellsB_eq : ∀ {vs : List Value} {l : List Sh}, cellsB vs l = true → vs = l.map Sh.zero
  | [], [], _ => rfl
  | v :: r, s :: l, h => by
    simp only [cellsB, Bool.and_eq_true] at h
    rw [cellB_eq h.1, cellsB_eq h.2]; rfl
  | [], _ :: _, h => by simp [cellsB] at h
  | _ :: _, [], h => by simp [cellsB] at h
def zeroB (v : Value) (i : TInfo) : Bool :=
  match i.kind with
  | .struct _ => match v with
    | .agg cs => cellsB cs.toList i.sh
    | _ => false
  | .arr _ _ => match v with
    | .agg cs => cellsB cs.toList i.sh
    | _ => false
  | _ => match i.sh with
    | [s] => cellB v s
    | _ => false
def pairsB : List (Nat × Nat) → List (Nat × Nat) → Bool
  | [], [] => true
  | (a, b) :: r, (c, d) :: l => Nat.beq a c && Nat.beq b d && pairsB r l
  | _, _ => false
theorem pairsB_eq : ∀ {a b : List (Nat × Nat)}, pairsB a b = true → a = b
  | [], [], _ => rfl
  | (a, b) :: r, (c, d) :: l, h => by
    simp only [pairsB, Bool.and_eq_true] at h
    rw [Nat.eq_of_beq_eq_true h.1.1, Nat.eq_of_beq_eq_true h.1.2, pairsB_eq h.2]
  | [], _ :: _, h => by simp [pairsB] at h
  | _ :: _, [], h => by simp [pairsB] at h
def undB (P : Program) (t : Nat) (k : Kind) : Bool :=
  match P.underlying t, k with
  | some (.int k), .int k' => kindB k k'
  | some .bool, .bool => true
  | some .string, .str => true
  | some (.pointer _), .ptr => true
  | some (.slice e), .slice e' => Nat.beq e e'
  | some (.map a b), .map c d => Nat.beq a c && Nat.beq b d
  | some (.struct fl), .struct fs => pairsB (fl.toList.map fun f => (f.offset, P.cellsOf f.type)) fs && fl.toList.all fun f => (P.info? f.type).isSome
  | some (.array n e), .arr n' e' => Nat.beq n n' && Nat.beq e e'
  | some (.func _ _ _), .func => true
  | some (.interface _), .iface => true
  | _, _ => false
def tyB (P : Program) (t : Nat) (i : TInfo) : Bool :=
  undB P t i.kind && match P.info? t with
    | some ti => Nat.beq ti.size i.sh.length && Nat.beq ti.bytes i.bytes && (match ti.zero with
      | some z => zeroB z i
      | none => false)
    | none => false
theorem tyB_ok {P : Program} {t : Nat} {i : TInfo} (h : tyB P t i = true) : TyOk P t i := by
  unfold tyB at h
  rw [Bool.and_eq_true] at h
  obtain ⟨hu, h⟩ := h
  cases hi : P.info? t with
  | none => rw [hi] at h; cases h
  | some ti =>
    rw [hi] at h
    simp only [Bool.and_eq_true] at h
    obtain ⟨⟨hs, hb⟩, hz⟩ := h
    cases hzz : ti.zero with
    | none => rw [hzz] at hz; cases hz
    | some z =>
      rw [hzz] at hz
      simp only [] at hz
      refine ⟨?_, ⟨ti, hi, Nat.eq_of_beq_eq_true hs, Nat.eq_of_beq_eq_true hb, ?_⟩, ?_⟩
      · unfold undB at hu
        cases hd : P.underlying t with
        | none => rw [hd] at hu; cases i.kind <;> cases hu
        | some d =>
          rw [hd] at hu
          cases hk : i.kind <;> rw [hk] at hu <;> cases d <;> (try (cases hu; done)) <;> simp only [undOk, hd]
          · rw [kindB_eq hu]
          · exact ⟨_, rfl⟩
          · rw [Nat.eq_of_beq_eq_true hu]
          · rw [Bool.and_eq_true] at hu; rw [Nat.eq_of_beq_eq_true hu.1, Nat.eq_of_beq_eq_true hu.2]
          · rw [Bool.and_eq_true] at hu
            exact ⟨_, rfl, pairsB_eq hu.1, fun f hf => by have := hu.2; rw [List.all_eq_true] at this; exact this f hf⟩
          · rw [Bool.and_eq_true] at hu; rw [Nat.eq_of_beq_eq_true hu.1, Nat.eq_of_beq_eq_true hu.2]
          · exact ⟨_, _, _, rfl⟩
          · exact ⟨_, rfl⟩
      · rw [hzz]
        congr 1
        unfold zeroB at hz
        unfold TInfo.zero TInfo.zcells
        split at hz <;> rename_i hk <;> simp only [hk]
        · split at hz
          · rw [← cellsB_eq hz]
          · cases hz
        · split at hz
          · rw [← cellsB_eq hz]
          · cases hz
        · split at hz
          · rename_i s hsh
            rw [cellB_eq hz]
            cases hkk : i.kind <;> simp_all
          · cases hz
      · unfold zeroB at hz
        cases hk : i.kind <;> simp only [hk] at hz ⊢ <;>
        · split at hz
          · rename_i s hsh; exact ⟨s, hsh⟩
          · cases hz
def fnB (P : Program) (f : Nat) : Bool :=
  match P.funcs[f]? with
  | some fn => !(fn.name == "runtime.NumGoroutine") && fn.body.isSome
  | none => false
theorem fnB_ok {P : Program} {f : Nat} (h : fnB P f = true) (args : Array Value) (w : World) : (callFunc f args).run P w = .ok (.enter f args) w := by
  unfold fnB at h
  cases hf : P.funcs[f]? with
  | none => rw [hf] at h; cases h
  | some fn =>
    rw [hf] at h
    simp only [Bool.and_eq_true, Bool.not_eq_true'] at h
    obtain ⟨h1, h2⟩ := h
    show (match P.funcs[f]? with
      | none => stuck "call: no such function"
      | some fn => _ : Sem Next).run P w = _
    rw [hf]
    simp only [h1, Bool.false_eq_true, if_false]
    cases hb : fn.body with
    | none => rw [hb] at h2; cases h2
    | some c => rfl
def mkTab (ty : Tr TInfo) (fn : Tr (List Ty)) : Tab := ⟨ty.find, fn.find⟩
theorem tab_of {P : Program} {ty : Tr TInfo} {fn : Tr (List Ty)} (h1 : ty.all (tyB P) = true) (h2 : fn.all (fun f _ => fnB P f) = true) (h3 : P.follows .mixedOrders = true) : TabOk P (mkTab ty fn) :=
  ⟨fun _ _ h => tyB_ok (Tr.all_find h1 h), fun _ _ h args w => fnB_ok (Tr.all_find (p := fun f _ => fnB P f) h2 h) args w, h3⟩
end Go.Vc
