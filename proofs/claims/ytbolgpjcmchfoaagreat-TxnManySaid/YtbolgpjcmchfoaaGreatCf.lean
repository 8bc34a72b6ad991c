/- Contracts of the sets of extents. -/
import Derived.Test.YtbolgpjcmchfoaaGreatCe
import Derived.Test.YtbolgpjcmchfoaaGreatLf
import Derived.Test.YtbolgpjcmchfoaaGreatMf
namespace Go.Proofs.YtbolgpjcmchfoaaGreat
open Go Go.Vc Go.Sl Go.Mo
/-- An extent as it stands in a set: no sum of its numbers wraps. -/
def okE (e : Ext) : Prop := 0 ≤ e.first ∧ 1 ≤ e.len ∧ e.first + e.len ≤ 1048577
theorem okE_may {e : Ext} (h : may e = true) : okE e := by
  simp [may] at h; unfold okE; omega
theorem meet_c' {a b : Ext} {w : World} {K : Bool → World → Prop} (ha : okE a) (hb : okE b) (hk : ∀ w', Keep w w' → K (meet a b) w') : c_ival_meet a.first a.len b.first b.len w K := by
  have hk' := hk _ ((Keep.alloc w (.cells #[.int .i64 a.first, .int .i64 a.len] 56)).trans (Keep.alloc _ (.cells #[.int .i64 b.first, .int .i64 b.len] 56)))
  refine ival_meet_go ?_
  unfold okE at ha hb
  simp [f_ival_meet, withW_iff, World.cell?_alloc_lt, bsplit_decide]
  rw [wrap_of (by omega) (by omega), wrap_of (by omega) (by omega)]
  refine ⟨fun h1 => ?_, fun h1 => ?_⟩
  · simpa [meet, h1] using hk'
  · have : meet a b = false := by simp [meet]; omega
    simpa [this] using hk'
abbrev extB (s : SV) (call : Int → Int → World → (Bool → World → Prop) → Prop) (x : Int) (w : World) (K : Bool → World → Prop) : Prop :=
  0 ≤ x ∧ x < ((s.n : Nat) : Int) ∧ onP s.a fun p => ∃ g : Int × Int, (w.cell? (p.add (x.toNat * 2)) = some (.int .i64 g.1) ∧ w.cell? ((p.add (x.toNat * 2)).add 1) = some (.int .i64 g.2)) ∧ call g.1 g.2 w K
theorem find_exts {s : SV} {l : List Ext} {w : World} {p : Ext → Bool} {call : Int → Int → World → (Bool → World → Prop) → Prop} {post : Int → World → Prop} (hl : extsOn (hp w) s l) (hn : l.length ≤ 2 ^ 60)
    (hcall : ∀ (x : Ext) (_ : x ∈ l) (w' : World) (K : Bool → World → Prop), Keep w w' → (∀ w'', Keep w' w'' → K (p x) w'') → call x.first x.len w' K)
    (hk : ∀ r w', Keep w w' → decide (0 ≤ r) = l.any p → post r w') :
    loopR (α := Int × Int) (0, 0) w fun x1 w2 next3 => bsplit (decide ((x1.2 : Int) < ((s.n : Nat) : Int))) (extB s call x1.2 w2 fun b w7 => bsplit b (post x1.2 w7) (next3 (x1.1, IntKind.i64.wrap (x1.2 + 1)) w7)) (post (-1) w2) := by
  have hsn := hl.1
  refine loop_i (fun (x : Int × Int) w' => ∃ i : Nat, x.2 = i ∧ i ≤ l.length ∧ Keep w w' ∧ ∀ j (h1 : j < l.length), j < i → p l[j] = false) (fun x _ => l.length - x.2.toNat) ⟨0, rfl, by omega, Keep.refl w, fun j _ h => by omega⟩ ?_
  rintro ⟨y, x⟩ w' ⟨i, hx, hi, hw, hall⟩
  simp only at hx; subst hx
  refine bsplit_decide.2 ⟨fun hlt => ?_, fun hge => ?_⟩
  · have hlt' : i < l.length := by simp at hlt; omega
    obtain ⟨ad, ha, h1, h2⟩ := (extsOn_le (keep_le hw) hl).2 i hlt'
    refine ⟨by omega, by omega, onP_i ha ⟨(l[i].first, l[i].len), ⟨h1, h2⟩, hcall l[i] (List.getElem_mem hlt') w' _ hw fun w'' hw'' => bsplit_iff.2 ⟨fun hp => ?_, fun hp => ?_⟩⟩⟩
    · refine hk _ _ (hw.trans hw'') ?_
      have : l.any p = true := List.any_eq_true.2 ⟨l[i], List.getElem_mem hlt', hp⟩
      simp [this]
    · refine ⟨⟨i + 1, by rw [wrap_of (by omega) (by omega)]; rfl, by omega, hw.trans hw'', fun j h1 hj => ?_⟩, by rw [wrap_of (by omega) (by omega)]; omega⟩
      rcases Nat.lt_succ_iff_lt_or_eq.1 hj with h' | h'
      · exact hall j h1 h'
      · subst h'; exact hp
  · refine hk _ _ hw ?_
    have : l.any p = false := by
      rw [List.any_eq_false]
      intro x hx
      obtain ⟨j, hj, rfl⟩ := List.getElem_of_mem hx
      simpa using hall j hj (by simp at hge; omega)
    rw [this]; rfl
theorem all1_c {x : Ext} {w : World} {K : Bool → World → Prop} (hk : ∀ w', Keep w w' → K (!may x) w') : c_ival_all_1 x.first x.len w K := by
  refine ival_all_1_go ?_
  simp only [f_ival_all_1, withW_iff]
  refine ⟨(x.first, x.len), ⟨by rw [World.cell?_alloc_new]; rfl, by rw [add_mk, World.cell?_alloc_new]; rfl⟩, may_c (a := x) fun w' kw => hk _ ((Keep.alloc _ _).trans kw)⟩
theorem all_c {s : SV} {l : List Ext} {w : World} {K : Bool → World → Prop} (hl : extsOn (hp w) s l) (hn : l.length ≤ 2 ^ 60) (hk : ∀ w', Keep w w' → K (l.all may) w') : c_ival_all s w K := by
  refine ival_all_go ?_
  refine slices_ContainsFunc_api_Extent_api_Extent_at_ival_all_1_go ?_
  refine slices_IndexFunc_api_Extent_api_Extent_at_ival_all_1_go ?_
  refine find_exts (p := fun x => !may x) (post := fun r w => K (!decide (0 ≤ r)) w) (call := fun a d w K => c_ival_all_1 a d w K) hl hn (fun x _ w' K _ hk => all1_c hk) fun r w' hw hr => ?_
  have : (!decide (0 ≤ r)) = l.all may := by rw [hr, List.any_eq_not_all_not]; simp
  rw [this]; exact hk w' hw
theorem meets1_c {x e : Ext} {c : Nat} {w : World} {K : Bool → World → Prop} (hx : okE x) (he : okE e) (h1 : w.cell? ⟨c, 0, none⟩ = some (.int .i64 e.first)) (h2 : w.cell? ⟨c, 1, none⟩ = some (.int .i64 e.len)) (hk : ∀ w', Keep w w' → K (meet x e) w') : c_ival_Set_Meets_1 x.first x.len (some ⟨c, 0, none⟩) w K := by
  refine ival_Set_Meets_1_go ?_
  simp only [f_ival_Set_Meets_1, withW_iff, onP_some]
  have k1 := Keep.alloc w (.cells #[.int .i64 x.first, .int .i64 x.len] 56)
  refine ⟨(x.first, x.len), ⟨by rw [World.cell?_alloc_new]; rfl, by rw [add_mk, World.cell?_alloc_new]; rfl⟩, (e.first, e.len), ⟨keep_cell k1 h1, by rw [add_mk]; exact keep_cell k1 h2⟩, meet_c' hx he fun w' kw => hk _ (k1.trans kw)⟩
theorem meetsF_c {s : SV} {l : List Ext} {e : Ext} {c : Nat} {w : World} {K : Bool → World → Prop} (hl : extsOn (hp w) s l) (hn : l.length ≤ 2 ^ 60) (hok : ∀ x ∈ l, okE x) (he : okE e) (h1 : w.cell? ⟨c, 0, none⟩ = some (.int .i64 e.first)) (h2 : w.cell? ⟨c, 1, none⟩ = some (.int .i64 e.len))
    (hk : ∀ w', Keep w w' → K (l.any fun x => meet x e) w') : c_slices_ContainsFunc_api_Extent_api_Extent_at_ival_Set_Meets_1 s (some ⟨c, 0, none⟩) w K := by
  refine slices_ContainsFunc_api_Extent_api_Extent_at_ival_Set_Meets_1_go ?_
  refine slices_IndexFunc_api_Extent_api_Extent_at_ival_Set_Meets_1_go ?_
  refine find_exts (p := fun x => meet x e) (post := fun r w => K (decide (0 ≤ r)) w) (call := fun a d w K => c_ival_Set_Meets_1 a d (some ⟨c, 0, none⟩) w K) hl hn (fun x hx w' K kw hk => meets1_c (hok x hx) he (keep_cell kw h1) (keep_cell kw h2) hk) fun r w' hw hr => ?_
  rw [hr]; exact hk w' hw
def SetOk (S : XSet) : Prop := (∀ x ∈ S.l, okE x) ∧ S.l.length ≤ 2 ^ 30
theorem set_ptr {p : Option Addr} {S : XSet} {R : HP} {w : World} (h : Sat (setA p S * R) w) : ∃ b, p = some ⟨b, 0, none⟩ := by
  obtain ⟨s, h1⟩ := setA_open h
  obtain ⟨b, t, rfl, _⟩ := objA_open h1
  exact ⟨b, rfl⟩
theorem set_meets {p : Option Addr} {S : XSet} {e : Ext} {R : HP} {w : World} {K : Bool → World → Prop} (h : Sat (setA p S * R) w) (ok : SetOk S) (hk : ∀ w', Keep w w' → K (may e && S.l.any fun x => meet x e) w') : c_ival_Set_Meets p e.first e.len w K := by
  obtain ⟨b, rfl⟩ := set_ptr h
  obtain ⟨s, h1⟩ := setA_open h
  refine ival_Set_Meets_go ?_
  unfold f_ival_Set_Meets
  rw [withW_iff]
  have k1 := Keep.alloc w (.cells #[.int .i64 e.first, .int .i64 e.len] 56)
  have hb : Sat (pt w.heap.size (.cells #[.int .i64 e.first, .int .i64 e.len] 56) * 1) (w.alloc (.cells #[.int .i64 e.first, .int .i64 e.len] 56)) := (h.one).alloc _
  generalize w.alloc (.cells #[.int .i64 e.first, .int .i64 e.len] 56) = w1 at k1 hb ⊢
  generalize w.heap.size = bx at hb ⊢
  have hc0 : w1.cell? ⟨bx, 0, none⟩ = some (.int .i64 e.first) := hb.cell 0
  have hc1 : w1.cell? ⟨bx, 1, none⟩ = some (.int .i64 e.len) := hb.cell 1
  refine bsplit_iff.2 ⟨fun e => (by cases e), fun _ => ⟨(e.first, e.len), ⟨hc0, by rw [add_mk]; exact hc1⟩, may_c (a := e) fun w4 k4 => bsplit_iff.2 ⟨fun hm => ?_, fun hm => ?_⟩⟩⟩
  · have hm' : may e = false := by simpa using hm
    simp only [hm', Bool.false_and] at hk
    exact hk _ (k1.trans k4)
  · have hm' : may e = true := by simpa using hm
    simp only [hm', Bool.true_and] at hk
    have h4 := (k1.trans k4).sat h1
    rw [onP_some, add_mk]
    refine ⟨s, (objA_cells h4).1 1, ?_⟩
    refine meetsF_c (extsA_on h4.right.left) (by have := ok.2; omega) ok.1 (okE_may hm') (keep_cell k4 hc0) (keep_cell k4 hc1) fun w' kw => hk _ ((k1.trans k4).trans kw)
theorem set_has {p : Option Addr} {S : XSet} {lba : Int} {R : HP} {w : World} {K : Bool → World → Prop} (h : Sat (setA p S * R) w) (ok : SetOk S) (hk : ∀ w', Keep w w' → K (XSet.has S lba) w') : c_ival_Set_Has p lba w K :=
  ival_Set_Has_go (set_meets (e := ⟨lba, 1⟩) h ok hk)
theorem clone_exts {s : SV} {l : List Ext} {R : HP} {w : World} {K : SV → World → Prop} (h : Sat R w) (hl : extsOn (hp w) s l) (hc : l.length ≤ 2 ^ 40) (hk : ∀ s' w', Sat (extsA s' l * R) w' → K s' w') : c_slices_Clone_api_Extent_api_Extent s w K :=
  slices_Clone_api_Extent_api_Extent_go (clone_i (vs := l.flatMap encE) h (extsOn_row hl) (by rw [encE_length, hl.1]) (encE_one l) (by rw [hl.1]; omega) (by omega) rfl (by omega) fun s' w' _ hs => hk s' w' hs)
theorem set_extents {p : Option Addr} {S : XSet} {R : HP} {w : World} {K : SV → World → Prop} (h : Sat (setA p S * R) w) (hl : S.l.length ≤ 2 ^ 40) (hk : ∀ s w', Sat (extsA s S.l * whole w) w' → K s w') : c_ival_Set_Extents p w K := by
  obtain ⟨b, rfl⟩ := set_ptr h
  obtain ⟨s, h1⟩ := setA_open h
  refine ival_Set_Extents_go (bsplit_iff.2 ⟨fun e => (by cases e), fun _ => ?_⟩)
  rw [onP_some, add_mk]
  exact ⟨s, (objA_cells h1).1 1, clone_exts (sat_whole w) (extsA_on h1.right.left) hl fun s' w' hs => hk _ _ hs⟩
theorem set_new {m : Int} {R : HP} {w : World} {K : Option Addr → World → Prop} (h : Sat R w) (hk : ∀ p w', Sat (setA p ⟨m, []⟩ * R) w' → K p w') : c_ival_New m w K := by
  refine ival_New_go ?_
  unfold f_ival_New
  rw [withW_iff]
  refine hk _ _ (setA_close (s := ⟨none, 0, 0⟩) ?_)
  have h1 : Sat (objA (some ⟨w.heap.size, 0, none⟩) [.int .i64 m, .slice none 0 0] * (extsA ⟨none, 0, 0⟩ [] * R)) (w.alloc (.cells [.int .i64 m, .slice none 0 0].toArray 207)) := objA_new (ownS_nil h rfl rfl)
  exact h1
theorem sumLen_take {l : List Ext} {i : Nat} (h : i < l.length) : sumLen (l.take (i + 1)) = sumLen (l.take i) + l[i].len := by
  unfold sumLen
  rw [List.take_succ_eq_append_getElem h, List.map_append, List.sum_append, List.map_cons, List.map_nil, List.sum_cons, List.sum_nil, Int.add_zero]
theorem sumLen_bound {l : List Ext} (ok : ∀ x ∈ l, okE x) : ∀ i, i ≤ l.length → (i : Int) ≤ sumLen (l.take i) ∧ sumLen (l.take i) ≤ i * 1048577
  | 0, _ => by simp [sumLen]
  | i + 1, h => by
    have := sumLen_bound ok i (by omega)
    rw [sumLen_take (by omega)]
    have h1 := ok l[i] (List.getElem_mem (by omega))
    unfold okE at h1
    omega
theorem set_count {p : Option Addr} {S : XSet} {R : HP} {w : World} {K : Int → World → Prop} (h : Sat (setA p S * R) w) (ok : SetOk S) (hk : ∀ w', Keep w w' → K (sumLen S.l) w') : c_ival_Set_Count p w K := by
  have hb := ok.2
  refine ival_Set_Count_go (set_extents h (by omega) fun s w2 hs => ?_)
  have hon := extsA_on hs.left
  have k0 : Keep w w2 := Keep.whole hs.right
  have hsn := hon.1
  refine loop_i (fun (x : Int × Int) w' => ∃ i : Nat, x = (sumLen (S.l.take i), (i : Int)) ∧ i ≤ S.l.length ∧ Keep w2 w') (fun x _ => S.l.length - x.2.toNat) ⟨0, rfl, by omega, Keep.refl w2⟩ ?_
  rintro x w4 ⟨i, rfl, hi, kw⟩
  refine bsplit_decide.2 ⟨fun hlt => ?_, fun hge => ?_⟩
  · have hlt' : i < S.l.length := by simp at hlt; omega
    obtain ⟨ad, ha, h1, h2⟩ := (extsOn_le (keep_le kw) hon).2 i hlt'
    refine ⟨by omega, by omega, onP_i ha ⟨(S.l[i].first, S.l[i].len), ⟨h1, h2⟩, box2 (sat_whole w4) fun w9 k9 h9 => ⟨S.l[i].len, by rw [add_mk]; exact (objA_cells h9).1 1, ?_⟩⟩⟩
    rw [withI_iff]
    have hs1 := sumLen_bound ok.1 i hi
    have hs2 := ok.1 S.l[i] (List.getElem_mem hlt')
    unfold okE at hs2
    have e1 : IntKind.i64.wrap ((i : Int) + 1) = ((i + 1 : Nat) : Int) := by rw [wrap_of (by omega) (by omega)]; omega
    refine ⟨⟨i + 1, ?_, by omega, kw.trans k9⟩, by simp only [e1]; omega⟩
    rw [sumLen_take hlt', e1, wrap_of (by omega) (by omega)]
  · obtain rfl : i = S.l.length := by simp at hge; omega
    rw [List.take_length]
    exact hk _ (k0.trans kw)
end Go.Proofs.YtbolgpjcmchfoaaGreat
