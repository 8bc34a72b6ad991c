/- The verification condition is sound: regions, code, functions. -/
import Derived.Test.YtbolgpjcmchfoaaGreatVf
import Derived.OrdersHeld
namespace Go.Vc
open Go
section
variable {P : Program} {T : Tab}
/-! decoding and back -/
theorem decEq_self (k : IntKind) : decEq k k = .isTrue rfl := by
  cases h : decEq k k with
  | isTrue _ => rfl
  | isFalse hn => exact absurd rfl hn
theorem none_some {α : Type} {x : α} (h : none = some x) : False := Option.some_ne_none x h.symm
theorem Sh.dec_v (s : Sh) : ∀ x : s.T, s.dec (s.v x) = some x := by
  cases s
  case int k => intro x; unfold Sh.dec Sh.v; simp only []; rw [decEq_self]
  case func =>
    intro x
    cases x with
    | none => rfl
    | some p => obtain ⟨f, a, b⟩ := p; rfl
  case iface =>
    intro x
    cases x with
    | none => rfl
    | some p => obtain ⟨t, v⟩ := p; rfl
  all_goals (intro x; rfl)
theorem Sh.v_dec (s : Sh) (v : Value) : ∀ x : s.T, s.dec v = some x → s.v x = v := by
  cases s <;> cases v <;> intro x h <;> (try (cases h; done))
  case int.int k k' n =>
    unfold Sh.dec at h
    simp only [] at h
    cases hd : decEq k k' with
    | isTrue e => rw [hd] at h; injection h with h; subst h; subst e; rfl
    | isFalse e => rw [hd] at h; cases h
  all_goals (first | (injection h with h; subst h; rfl) | (cases h; rfl))
theorem HT.dec_cons (s b : Sh) (r : List Sh) (v u : Value) (vs : List Value) : HT.dec (s :: b :: r) (v :: u :: vs) = (match s.dec v with
    | some x => match HT.dec (b :: r) (u :: vs) with
      | some y => some (x, y)
      | none => none
    | none => none : Option (HT (s :: b :: r))) := rfl
theorem RT.dec_cons (s b : Ty) (r : List Ty) (v u : Value) (vs : List Value) : RT.dec (s :: b :: r) (v :: u :: vs) = (match s.dec v with
    | some x => match RT.dec (b :: r) (u :: vs) with
      | some y => some (x, y)
      | none => none
    | none => none : Option (RT (s :: b :: r))) := rfl
theorem HT.dec_vals : ∀ (l : List Sh) (x : HT l), HT.dec l (HT.vals l x) = some x := by
  intro l
  induction l with
  | nil => intro x; rfl
  | cons s r ih =>
    cases r with
    | nil => intro x; exact Sh.dec_v s x
    | cons b r =>
      intro x
      have h1 := Sh.dec_v s x.1
      have h2 := ih x.2
      have h3 : ∃ v vs, HT.vals (b :: r) x.2 = v :: vs := by
        cases r with
        | nil => exact ⟨b.v x.2, [], rfl⟩
        | cons c r => exact ⟨b.v x.2.1, HT.vals (c :: r) x.2.2, rfl⟩
      obtain ⟨v, vs, h3⟩ := h3
      have e : HT.vals (s :: b :: r) x = s.v x.1 :: HT.vals (b :: r) x.2 := rfl
      rw [e]
      rw [h3] at h2 ⊢
      rw [HT.dec_cons, h1, h2]; rfl
theorem HT.vals_dec : ∀ (l : List Sh) (vs : List Value) (x : HT l), HT.dec l vs = some x → HT.vals l x = vs := by
  intro l
  induction l with
  | nil =>
    intro vs x h
    cases vs with
    | nil => rfl
    | cons v vs => exact (none_some (x := x) h).elim
  | cons s r ih =>
    cases r with
    | nil =>
      intro vs x h
      match vs, h with
      | [], h => exact (none_some (x := x) h).elim
      | [v], h => show [s.v x] = [v]; rw [Sh.v_dec s v x h]
      | _ :: _ :: _, h => exact (none_some (x := x) h).elim
    | cons b r =>
      intro vs x h
      match vs, h with
      | [], h => exact (none_some (x := x) h).elim
      | [_], h => exact (none_some (x := x) h).elim
      | v :: u :: vs, h =>
        rw [HT.dec_cons] at h
        cases h1 : s.dec v with
        | none => simp [h1] at h
        | some y =>
          cases h2 : HT.dec (b :: r) (u :: vs) with
          | none => simp [h1, h2] at h
          | some z =>
            rw [h1, h2] at h
            have h := Option.some.inj h
            subst h
            show s.v y :: HT.vals (b :: r) z = _
            rw [Sh.v_dec s v y h1, ih (u :: vs) z h2]
theorem Ty.v_dec (t : Ty) (v : Value) (x : t.T) (h : t.dec v = some x) : t.v x = v := by
  cases t with
  | cell s => exact Sh.v_dec s v x h
  | agg l =>
    cases v <;> simp only [Ty.dec, reduceCtorEq] at h
    simp only [Ty.v]
    rw [HT.vals_dec l _ x h]
theorem RT.vals_dec : ∀ (l : List Ty) (vs : List Value) (x : RT l), RT.dec l vs = some x → RT.vals l x = vs := by
  intro l
  induction l with
  | nil =>
    intro vs x h
    cases vs with
    | nil => rfl
    | cons v vs => exact (none_some (x := x) h).elim
  | cons s r ih =>
    cases r with
    | nil =>
      intro vs x h
      match vs, h with
      | [], h => exact (none_some (x := x) h).elim
      | [v], h => show [s.v x] = [v]; rw [Ty.v_dec s v x h]
      | _ :: _ :: _, h => exact (none_some (x := x) h).elim
    | cons b r =>
      intro vs x h
      match vs, h with
      | [], h => exact (none_some (x := x) h).elim
      | [_], h => exact (none_some (x := x) h).elim
      | v :: u :: vs, h =>
        rw [RT.dec_cons] at h
        cases h1 : s.dec v with
        | none => simp [h1] at h
        | some y =>
          cases h2 : RT.dec (b :: r) (u :: vs) with
          | none => simp [h1, h2] at h
          | some z =>
            rw [h1, h2] at h
            have h := Option.some.inj h
            subst h
            show s.v y :: RT.vals (b :: r) z = _
            rw [Ty.v_dec s v y h1, ih (u :: vs) z h2]
/-! what stays -/
abbrev none_ : Nat → Prop := fun _ => False
def Keeps (ds : List Nat) (a a' : Act) : Prop := ∀ s, s ∉ ds → a'.tmps[s]? = a.tmps[s]?
theorem Keeps.refl (ds : List Nat) (a : Act) : Keeps ds a a := fun _ _ => rfl
theorem Keeps.trans {ds : List Nat} {a b c : Act} (h : Keeps ds a b) (k : Keeps ds b c) : Keeps ds a c := fun s hs => (k s hs).trans (h s hs)
theorem Keeps.mono {ds ds' : List Nat} {a b : Act} (h : Keeps ds a b) (hs : ∀ s, s ∈ ds → s ∈ ds') : Keeps ds' a b := fun s h' => h s fun e => h' (hs s e)
theorem Keeps.put {ds : List Nat} {a : Act} {d : Option Tmp} (hd : ∀ s, d = some s → s ∈ ds) (v : Value) : Keeps ds a (a.put d v) := by
  intro s hs
  cases d with
  | none => rfl
  | some d =>
    have : d ≠ s := fun e => hs (e ▸ hd d rfl)
    simp only [Act.put]
    rw [Array.getElem?_setIfInBounds_ne this]
/-! guards -/
theorem vcG_sound {N : Nat} {E : Env} {a : Act} (hr : Rep N none_ E a) {ops : Array Oper} {o : Oper} {yes no : Env → Prop} (h : vcG ops o E yes no) :
    (Region.wanted o (yielded ops a.tmps) = true ∧ ∃ E', Rep N none_ E' a ∧ yes E') ∨ (Region.wanted o (yielded ops a.tmps) = false ∧ ∃ E', Rep N none_ E' a ∧ no E') := by
  unfold vcG at h
  unfold Region.wanted
  cases hg : o.guard with
  | none => rw [hg] at h; exact Or.inl ⟨rfl, E, hr, h⟩
  | some p =>
    obtain ⟨j, want⟩ := p
    rw [hg] at h
    simp only [] at h ⊢
    cases hd : (ops[j]?).bind (·.dst) with
    | none =>
      rw [hd] at h
      refine Or.inr ⟨?_, E, hr, h⟩
      simp [yielded, hd]
    | some s =>
      rw [hd] at h
      simp only [] at h
      have hat : ∀ v, opd E (.tmp s) = some v → a.tmps[s]? = some v ∧ get E s = some v := by
        intro v hv
        simp only [opd] at hv
        split at hv
        · rename_i hb
          exact ⟨hr.at_ s v hv (by rw [Nat.blt_eq] at hb; exact hb) (fun f => f), hv⟩
        · cases hv
      split at h
      · rename_i b hb
        obtain ⟨ha, hgE⟩ := hat _ hb
        have hy : yielded ops a.tmps j = some b := by simp [yielded, hd, ha]
        cases b
        · have hrep := hr.same hgE (u := .bool false) rfl
          cases want
          · exact Or.inl ⟨by rw [hy]; rfl, _, hrep, h⟩
          · exact Or.inr ⟨by rw [hy]; rfl, _, hrep, h⟩
        · have hrep := hr.same hgE (u := .bool true) rfl
          cases want
          · exact Or.inr ⟨by rw [hy]; rfl, _, hrep, h⟩
          · exact Or.inl ⟨by rw [hy]; rfl, _, hrep, h⟩
      · rename_i v hnb hv
        obtain ⟨ha, _⟩ := hat _ hv
        refine Or.inr ⟨?_, E, hr, h⟩
        have : yielded ops a.tmps j = none := by
          simp only [yielded, hd, Option.bind_some, ha]
          split
          · rename_i b hb; simp only [Option.some.injEq] at hb; exact (hnb b hb).elim
          · rfl
        rw [this]; cases want <;> rfl
      · exact h.elim
theorem vcStep_sound (hT : TabOk P T) {N : Nat} {E : Env} {a : Act} (hr : Rep N none_ E a) {o : Oper} {w : World} {K : Env → World → Prop} {next : Act → World → Prop} {Q : Exit → Act → World → Prop}
    (hd : ∀ s, o.dst = some s → s < N) (h : vcStep P T o E w K) (hK : ∀ E' v w', Rep N none_ E' (a.put o.dst v) → K E' w' → Wsame w w' → next (a.put o.dst v) w') : o.wp P a w next Q := by
  unfold vcStep at h
  split at h
  · obtain ⟨v, hrun, hk⟩ := vcS_sound (S := fun w' => w' = w) hT (fun φ hφ w' e => e ▸ hφ) hr (fun _ _ f => f) h
    exact wp_value (hrun w rfl) (hK _ v w (hr.put hd v) hk (Wsame.refl w))
  · exact vcE_sound hT hr hd (fun _ _ f => f) h (fun E' v w' hr' hk _ hs => hK E' v w' hr' hk hs)
theorem vcOps_sound (hT : TabOk P T) {N : Nat} {ops : Array Oper} {K : Env → World → Prop} {Q : Exit → Act → World → Prop} {ds : List Nat} (hds : ∀ o ∈ ops.toList, ∀ s, o.dst = some s → s < N ∧ s ∈ ds) :
    ∀ (l : List Oper) (k : Nat) (E : Env) (a : Act) (w : World), ops.toList.drop k = l → Rep N none_ E a → vcOps P T ops l E w K →
      (∀ E' a' w', Rep N none_ E' a' → Keeps ds a a' → K E' w' → Wsame w w' → Q .normal a' w') → wpOps P ops Q (List.range' k l.length) a w
  | [], k, E, a, w, _, hr, h, hK => hK E a w hr (Keeps.refl _ _) h (Wsame.refl w)
  | o :: r, k, E, a, w, hl, hr, h, hK => by
    have ho : ops[k]? = some o := by
      have : (ops.toList.drop k)[0]? = some o := by rw [hl]; rfl
      simpa using this
    have hr' : ops.toList.drop (k + 1) = r := by
      have : (ops.toList.drop k).drop 1 = r := by rw [hl]; rfl
      simpa [Nat.add_comm] using this
    have hmem : o ∈ ops.toList := by
      have : o ∈ ops.toList.drop k := by rw [hl]; simp
      exact List.mem_of_mem_drop this
    have hd := hds o hmem
    simp only [List.length_cons, List.range'_succ, wpOps, ho]
    have step : ∀ E' v w', Rep N none_ E' (a.put o.dst v) → vcOps P T ops r E' w' K → Wsame w w' → wpOps P ops Q (List.range' (k + 1) r.length) (a.put o.dst v) w' := by
      intro E' v w' hrep hk hs
      refine vcOps_sound hT hds r (k + 1) E' _ w' hr' hrep hk fun E'' a'' w'' h1 h2 h3 h4 => hK E'' a'' w'' h1 ?_ h3 (hs.trans h4)
      exact (Keeps.put (fun s e => (hd s e).2) v).trans h2
    rcases vcG_sound hr h with ⟨hw, E', hrep, hy⟩ | ⟨hw, E', hrep, hn⟩
    · rw [if_pos hw]
      exact .inl (vcStep_sound hT hrep (fun s e => (hd s e).1) hy step)
    · rw [if_neg (by rw [hw]; simp)]
      exact step _ _ _ (hrep.put (fun s e => (hd s e).1) undef) hn (Wsame.refl w)
/-! regions that draw -/
def wpAnyL (P : Program) (ops : Array Oper) (Q : Exit → Act → World → Prop) (S : World → Prop) : Nat → Array Bool → Act → World → Prop
  | 0, listed, a, w => Region.ready .any ops listed = [] ∧ Q .normal a w
  | fuel + 1, listed, a, w =>
    (Region.ready .any ops listed = [] → Q .normal a w) ∧
    ∀ i ∈ Region.ready .any ops listed, wpOp P ops Q i (fun a' w' => ((∃ o, ops[i]? = some o ∧ last ops i o = true) ∨ S w') ∧ wpAnyL P ops Q S fuel (listed.setIfInBounds i true) a' w') a w
theorem wpAny_of_L {ops : Array Oper} {Q : Exit → Act → World → Prop} {S : World → Prop} : ∀ (fuel : Nat) (listed : Array Bool) (a : Act) (w : World), wpAnyL P ops Q S fuel listed a w → wpAny P .any ops Q fuel listed a w
  | 0, _, _, _, h => h
  | fuel + 1, _, _, _, h => ⟨h.1, fun i hi => wpOp_mono (fun a' w' h' => wpAny_of_L fuel _ a' w' h'.2) (h.2 i hi)⟩
theorem wpAnyL_done {ops : Array Oper} {Q : Exit → Act → World → Prop} {S : World → Prop} {listed : Array Bool} {a : Act} {w : World} (hr : Region.ready .any ops listed = []) (h : Q .normal a w) : ∀ fuel, wpAnyL P ops Q S fuel listed a w
  | 0 => ⟨hr, h⟩
  | _ + 1 => ⟨fun _ => h, by rw [hr]; simp⟩
/-- What is listed has what it waits for listed. -/
def Closed (ops : Array Oper) (listed : Array Bool) : Prop := ∀ k ok, ops[k]? = some ok → listed.getD k false = true → ∀ e ∈ ok.after, Region.binds .any e = true → listed.getD e.on false = true
theorem closed_set {ops : Array Oper} {listed : Array Bool} {j : Nat} (h : Closed ops listed) (hj : j ∈ Region.ready .any ops listed) : Closed ops (listed.setIfInBounds j true) := by
  intro k ok hk hl e he hb
  have key : listed.getD e.on false = true → (listed.setIfInBounds j true).getD e.on false = true := fun h0 => by
    by_cases hje : j = e.on
    · subst hje
      rcases Nat.lt_or_ge e.on listed.size with h' | h'
      · simp [h']
      · simp [Array.getElem?_eq_none h'] at h0
    · rw [getD_set_ne false hje]; exact h0
  apply key
  by_cases hjk : j = k
  · subst hjk
    obtain ⟨_, oj, hoj, hall⟩ := mem_ready.1 hj
    rw [hk] at hoj; cases hoj
    exact hall e he hb
  · rw [getD_set_ne false hjk] at hl
    exact h k ok hk hl e he hb
theorem listed_no {listed : Array Bool} {j : Nat} (h1 : listed.getD j false = true) (h2 : listed.getD j true = false) : False := by
  rcases Nat.lt_or_ge j listed.size with h' | h'
  · simp [h'] at h1 h2; rw [h1] at h2; cases h2
  · simp [Array.getElem?_eq_none h'] at h1
theorem before_spec {ops : Array Oper} {listed : Array Bool} (hc : Closed ops listed) {j : Nat} : ∀ (f : Nat) (o : Oper), (∀ e ∈ o.after, Region.binds .any e = true → listed.getD e.on false = true) → before ops f o j = true → listed.getD j false = true
  | 0, _, _, h => by cases h
  | f + 1, o, ho, h => by
    unfold before at h
    rw [Array.any_eq_true'] at h
    obtain ⟨e, he, hcc⟩ := h
    rw [Bool.and_eq_true, Bool.or_eq_true] at hcc
    obtain ⟨hb, h1⟩ := hcc
    rcases h1 with h1 | h1
    · rw [← Nat.eq_of_beq_eq_true h1]; exact ho e he hb
    · split at h1
      · rename_i o' ho'
        exact before_spec hc f o' (fun e' he' hb' => hc e.on o' ho' (ho e he hb) e' he' hb') h1
      · cases h1
theorem last_spec {ops : Array Oper} {listed : Array Bool} {i j : Nat} {o : Oper} (hc : Closed ops listed) (h : last ops i o = true) (ho : ∀ e ∈ o.after, Region.binds .any e = true → listed.getD e.on false = true) (hj : j < ops.size) (hne : j ≠ i) : listed.getD j false = true := by
  unfold last at h
  rw [List.all_eq_true] at h
  have := h j (by simpa using hj)
  have hb : Nat.beq j i = false := by
    cases hb : Nat.beq j i
    · rfl
    · exact absurd (Nat.eq_of_beq_eq_true hb) hne
  rw [hb, Bool.false_or] at this
  exact before_spec hc 2 o ho this
theorem wpAnyL_first {ops : Array Oper} {Q : Exit → Act → World → Prop} {S : World → Prop} {i : Nat} {oi : Oper} {v : Value} (hi : ops[i]? = some oi) (hsel : ∀ (j : Nat) (o : Oper) cs b, ops[j]? = some o → o.op ≠ .select cs b)
    (hQ : ∀ c a w, Q (.panic c) (a.put oi.dst v) w → Q (.panic c) a w) :
    ∀ (fuel : Nat) (listed : Array Bool) (a : Act) (w : World),
      (∀ j oj, ops[j]? = some oj → j ≠ i → listed.getD j true = false → (∀ e ∈ oj.after, Region.binds .any e = true → e.on ≠ i) → oi.apart ops oj = true) →
      Closed ops listed → i ∈ Region.ready .any ops listed → YieldsIf P ops S oi v a → S w →
      wpAnyL P ops Q S fuel (listed.setIfInBounds i true) (a.put oi.dst v) w → wpAnyL P ops Q S (fuel + 1) listed a w := by
  intro fuel
  induction fuel with
  | zero =>
    intro listed a w _ _ hr hy hS H
    refine ⟨fun h => (by rw [h] at hr; cases hr), fun j hj => ?_⟩
    by_cases hji : j = i
    · subst hji; exact hy.wpOp hi hS ⟨Or.inr hS, H⟩
    · have := ready_mono hj hji
      rw [H.1] at this
      cases this
  | succ fuel ih =>
    intro listed a w hfree hcl hr hy hS H
    refine ⟨fun h => (by rw [h] at hr; cases hr), fun j hj => ?_⟩
    by_cases hji : j = i
    · subst hji; exact hy.wpOp hi hS ⟨Or.inr hS, H⟩
    · have h1 := H.2 j (ready_mono hj hji)
      obtain ⟨hjun, oj, hoj, hall⟩ := mem_ready.1 hj
      have hnot : ∀ e ∈ oj.after, Region.binds .any e = true → e.on ≠ i := fun e he hb heq => by
        have h1 := hall e he hb
        have h0 := (mem_ready.1 hr).1
        rw [heq] at h1
        rcases Nat.lt_or_ge i listed.size with h' | h'
        · simp [h'] at h0 h1; rw [h0] at h1; cases h1
        · simp [Array.getElem?_eq_none h'] at h1
      have hnl : ¬ ∃ o, ops[j]? = some o ∧ last ops j o = true := by
        rintro ⟨o, ho, hl⟩
        rw [hoj] at ho
        injection ho with ho
        subst ho
        have hlt : i < ops.size := by
          rcases Nat.lt_or_ge i ops.size with h' | h'
          · exact h'
          · simp [Array.getElem?_eq_none h'] at hi
        have hli := last_spec hcl hl hall hlt (Ne.symm hji)
        exact listed_no hli (mem_ready.1 hr).1
      have h2 := wpOp_putIf hoj (hfree j oj hoj hji hjun hnot) (fun cs b => hsel i oi cs b hi) (fun cs b => hsel j oj cs b hoj) hQ hy h1
      have hfree' : ∀ k ok, ops[k]? = some ok → k ≠ i → (listed.setIfInBounds j true).getD k true = false →
          (∀ e ∈ ok.after, Region.binds .any e = true → e.on ≠ i) → oi.apart ops ok = true := fun k ok hk hki hun hno => by
        refine hfree k ok hk hki ?_ hno
        by_cases hjk : j = k
        · subst hjk; exact hjun
        · rw [getD_set_ne true hjk] at hun; exact hun
      refine wpOp_mono (fun a' w' h3 => ?_) h2
      obtain ⟨hy3, hS3, hW3⟩ := h3
      have hS4 : S w' := hS3.resolve_left hnl
      refine ⟨Or.inr hS4, ih (listed.setIfInBounds j true) a' w' hfree' (closed_set hcl hj) (ready_mono hr (Ne.symm hji)) hy3 hS4 ?_⟩
      rw [Array.setIfInBounds_comm _ _ hji]
      exact hW3
theorem firstLook_spec {ops : Array Oper} : ∀ {rs : List Nat} {i : Nat}, firstLook ops rs = some i → i ∈ rs ∧ ∃ o, ops[i]? = some o ∧ looks o.op = true
  | [], _, h => by simp [firstLook] at h
  | j :: r, i, h => by
    simp only [firstLook] at h
    split at h
    · rename_i o ho
      split at h
      · rename_i hl
        simp only [Option.some.injEq] at h
        subst h
        exact ⟨by simp, o, ho, hl⟩
      · obtain ⟨h1, h2⟩ := firstLook_spec h; exact ⟨by simp [h1], h2⟩
    · obtain ⟨h1, h2⟩ := firstLook_spec h; exact ⟨by simp [h1], h2⟩
theorem vcAll_spec : ∀ {rs : List Nat} {k : Nat → Prop}, vcAll rs k → ∀ i ∈ rs, k i
  | [], _, _, _, h => by cases h
  | [j], k, h, i, hi => by
    simp only [List.mem_singleton] at hi
    subst hi; exact h
  | j :: l :: r, k, h, i, hi => by
    rcases List.mem_cons.1 hi with rfl | hi
    · exact h.1
    · exact vcAll_spec h.2 i hi
theorem mem_toList_of {ops : Array Oper} {i : Nat} {o : Oper} (h : ops[i]? = some o) : o ∈ ops.toList := by
  have : ops.toList[i]? = some o := by simpa using h
  exact List.mem_of_getElem? this
theorem vcD_sound (hT : TabOk P T) {N : Nat} {ops : Array Oper} {K : Env → World → Prop} {Q : Exit → Act → World → Prop} {ds : List Nat} (hds : ∀ o ∈ ops.toList, ∀ s, o.dst = some s → s < N ∧ s ∈ ds)
    (hsel : Region.noSelect ops = true) {M : (World → Prop) → Prop} {S : World → Prop} (hM : ∀ φ, M φ → ∀ w, S w → φ w) (hQ : ∀ c a w, ¬ Q (.panic c) a w) :
    ∀ (fuel : Nat) (listed : Array Bool) (E : Env) (a : Act) (w : World), Closed ops listed → Rep N none_ E a → (S w ∨ Region.ready .any ops listed = []) → vcD P T M S ops fuel listed E w K →
      (∀ E' a' w', Rep N none_ E' a' → Keeps ds a a' → K E' w' → Wsame w w' → Q .normal a' w') → wpAnyL P ops Q S fuel listed a w
  | 0, listed, E, a, w, _, hr, _, h, hK => by
    simp only [vcD] at h
    split at h
    · rename_i hrs; exact ⟨hrs, hK E a w hr (Keeps.refl _ _) h (Wsame.refl w)⟩
    · exact h.elim
  | fuel + 1, listed, E, a, w, hcl, hr, hS, h, hK => by
    simp only [vcD] at h
    split at h
    · rename_i hrs; exact wpAnyL_done hrs (hK E a w hr (Keeps.refl _ _) h (Wsame.refl w)) _
    · rename_i hne
      have hne' : Region.ready .any ops listed ≠ [] := fun e => hne e
      have hSw : S w := hS.resolve_right hne'
      split at h
      · rename_i i hfl
        obtain ⟨hi, o, ho, hlook⟩ := firstLook_spec hfl
        split at h
        · rename_i o' ho' hfree
          rw [ho] at ho'
          injection ho' with ho'
          subst ho'
          have hd := hds o (mem_toList_of ho)
          have hstep : ∀ v, YieldsIf P ops S o v a → wpAnyL P ops Q S fuel (listed.setIfInBounds i true) (a.put o.dst v) w → wpAnyL P ops Q S (fuel + 1) listed a w :=
            fun v hy hW => wpAnyL_first ho (Region.noSelect_spec hsel) (fun c a' w' hq => absurd hq (hQ c _ w')) fuel listed a w (Region.free_spec ho hfree) hcl hi hy hSw hW
          have hK' : ∀ v, ∀ E' a' w', Rep N none_ E' a' → Keeps ds (a.put o.dst v) a' → K E' w' → Wsame w w' → Q .normal a' w' :=
            fun v E' a' w' h1 h2 h3 h4 => hK E' a' w' h1 ((Keeps.put (fun s e => (hd s e).2) v).trans h2) h3 h4
          rcases vcG_sound hr h with ⟨hw, E', hrep, hy⟩ | ⟨hw, E', hrep, hn⟩
          · obtain ⟨v, hrun, hk⟩ := vcS_sound hT hM hrep (fun _ _ f => f) hy
            exact hstep v (Or.inl ⟨hw, hrun⟩) (vcD_sound hT hds hsel hM hQ fuel _ _ _ w (closed_set hcl hi) (hrep.put (fun s e => (hd s e).1) v) (Or.inl hSw) hk (hK' v))
          · exact hstep undef (Or.inr ⟨hw, rfl⟩) (vcD_sound hT hds hsel hM hQ fuel _ _ _ w (closed_set hcl hi) (hrep.put (fun s e => (hd s e).1) undef) (Or.inl hSw) hn (hK' undef))
        · exact h.elim
      · refine ⟨fun e => absurd e hne', fun i hi => ?_⟩
        have hk := vcAll_spec h i hi
        obtain ⟨hiun, o, ho, hoall⟩ := mem_ready.1 hi
        rw [ho] at hk
        simp only [] at hk
        have hd := hds o (mem_toList_of ho)
        have hK' : ∀ v w0, Wsame w w0 → ∀ E' a' w', Rep N none_ E' a' → Keeps ds (a.put o.dst v) a' → K E' w' → Wsame w0 w' → Q .normal a' w' :=
          fun v w0 hs E' a' w' h1 h2 h3 h4 => hK E' a' w' h1 ((Keeps.put (fun s e => (hd s e).2) v).trans h2) h3 (hs.trans h4)
        unfold wpOp
        simp only [ho]
        have hlastready : last ops i o = true → Region.ready .any ops (listed.setIfInBounds i true) = [] := by
          intro hl
          cases hrd : Region.ready .any ops (listed.setIfInBounds i true) with
          | nil => rfl
          | cons j js =>
            exfalso
            have hj : j ∈ Region.ready .any ops (listed.setIfInBounds i true) := by rw [hrd]; simp
            obtain ⟨hjun, oj, hoj, _⟩ := mem_ready.1 hj
            have hji : j ≠ i := by
              rintro rfl
              have hun := (mem_ready.1 hi).1
              rcases Nat.lt_or_ge j listed.size with h' | h'
              · simp [h'] at hjun
              · simp [Array.getElem?_eq_none h'] at hun
            have hlt : j < ops.size := by
              rcases Nat.lt_or_ge j ops.size with h' | h'
              · exact h'
              · simp [Array.getElem?_eq_none h'] at hoj
            have hli := last_spec hcl hl hoall hlt hji
            rw [getD_set_ne true (Ne.symm hji)] at hjun
            exact listed_no hli hjun
        rcases vcG_sound hr hk with ⟨hw, E', hrep, hy⟩ | ⟨hw, E', hrep, hn⟩
        · rw [if_pos hw]
          refine .inl (vcE_sound hT hrep (fun s e => (hd s e).1) (fun _ _ f => f) hy fun E'' v w' hr'' hk'' _ hs => ?_)
          split at hk''
          · rename_i hl
            exact ⟨Or.inl ⟨o, rfl, hl⟩, vcD_sound hT hds hsel hM hQ fuel _ _ _ w' (closed_set hcl hi) hr'' (Or.inr (hlastready hl)) hk'' (hK' v w' hs)⟩
          · exact ⟨Or.inr hk''.1, vcD_sound hT hds hsel hM hQ fuel _ _ _ w' (closed_set hcl hi) hr'' (Or.inl hk''.1) hk''.2 (hK' v w' hs)⟩
        · rw [if_neg (by rw [hw]; simp)]
          exact ⟨Or.inr hSw, vcD_sound hT hds hsel hM hQ fuel _ _ _ w (closed_set hcl hi) (hrep.put (fun s e => (hd s e).1) undef) (Or.inl hSw) hn (hK' undef w (Wsame.refl w))⟩
end
end Go.Vc
