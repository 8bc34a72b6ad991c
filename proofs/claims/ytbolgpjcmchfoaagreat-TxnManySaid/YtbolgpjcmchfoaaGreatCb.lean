/- Contracts of functions that look at lists of puts. -/
import Derived.Test.YtbolgpjcmchfoaaGreatCa
import Derived.Test.YtbolgpjcmchfoaaGreatMc
namespace Go.Proofs.YtbolgpjcmchfoaaGreat
open Go Go.Vc Go.Sl Go.Mo
abbrev putB (s : SV) (call : Int → SV → World → (Bool → World → Prop) → Prop) (x : Int) (w : World) (K : Bool → World → Prop) : Prop :=
  0 ≤ x ∧ x < ((s.n : Nat) : Int) ∧ onP s.a fun p => ∃ g : Int × SV, (w.cell? (p.add (x.toNat * 2)) = some (.int .i64 g.1) ∧ w.cell? ((p.add (x.toNat * 2)).add 1) = some (.slice g.2.a g.2.n g.2.c)) ∧ call g.1 g.2 w K
/-- slices.IndexFunc on puts, for whatever predicate. -/
theorem find_puts {s : SV} {l : List Put} {w : World} {p : Put → Bool} {call : Int → SV → World → (Bool → World → Prop) → Prop} {post : Int → World → Prop} (hl : putsOn (hp w) s l) (hn : l.length ≤ 2 ^ 60)
    (hcall : ∀ (x : Put) (_ : x ∈ l) (d : SV) (w' : World) (K : Bool → World → Prop), Keep w w' → bytesOn (hp w') d x.data → (∀ w'', Keep w' w'' → K (p x) w'') → call x.lba d w' K)
    (hk : ∀ r w', Keep w w' → decide (0 ≤ r) = l.any p → post r w') :
    loopR (α := Int × Int) (0, 0) w fun x1 w2 next3 => bsplit (decide ((x1.2 : Int) < ((s.n : Nat) : Int))) (putB s call x1.2 w2 fun b w7 => bsplit b (post x1.2 w7) (next3 (x1.1, IntKind.i64.wrap (x1.2 + 1)) w7)) (post (-1) w2) := by
  have hsn := hl.1
  refine loop_i (fun (x : Int × Int) w' => ∃ i : Nat, x.2 = i ∧ i ≤ l.length ∧ Keep w w' ∧ ∀ j (h1 : j < l.length), j < i → p l[j] = false) (fun x _ => l.length - x.2.toNat) ⟨0, rfl, by omega, Keep.refl w, fun j _ h => by omega⟩ ?_
  rintro ⟨y, x⟩ w' ⟨i, hx, hi, hw, hall⟩
  simp only at hx; subst hx
  refine bsplit_decide.2 ⟨fun hlt => ?_, fun hge => ?_⟩
  · have hlt' : i < l.length := by simp at hlt; omega
    obtain ⟨ad, d, ha, h1, h2, h3⟩ := (putsOn_le (keep_le hw) hl).2 i hlt'
    refine ⟨by omega, by omega, onP_i ha ⟨(l[i].lba, d), ⟨h1, h2⟩, hcall l[i] (List.getElem_mem hlt') d w' _ hw h3 fun w'' hw'' => bsplit_iff.2 ⟨fun hp => ?_, fun hp => ?_⟩⟩⟩
    · refine hk _ _ (hw.trans hw'') ?_
      have : l.any p = true := List.any_eq_true.2 ⟨l[i], List.getElem_mem hlt', hp⟩
      simp [this]
    · refine ⟨⟨i + 1, by rw [wrap_of (by omega) (by omega)]; rfl, by omega, hw.trans hw'', fun j h1 hj => ?_⟩, by rw [wrap_of (by omega) (by omega)]; omega⟩
      rcases Nat.lt_succ_iff_lt_or_eq.1 hj with h' | h'
      · exact hall j h1 h'
      · subst h'; exact hp
  · refine hk _ _ hw ?_
    have : l.any p = false := by
      rw [List.any_eq_false]
      intro x hx
      obtain ⟨j, hj, rfl⟩ := List.getElem_of_mem hx
      simpa using hall j hj (by simp at hge; omega)
    rw [this]; rfl
theorem len_c {x : Put} {d : SV} {w : World} {K : Bool → World → Prop} (hd : bytesOn (hp w) d x.data) (hk : ∀ w', Keep w w' → K (badLen x) w') : c_wbuf_Buf_Write_2 x.lba d w K := by
  refine wbuf_Buf_Write_2_go ?_
  have := hk _ (Keep.alloc w (.cells #[.int .i64 x.lba, .slice d.a d.n d.c] 33))
  simp only [f_wbuf_Buf_Write_2, withW_iff, add_mk, World.cell?_alloc_new]
  refine ⟨d, by simp, ?_⟩
  have e : (!decide (((d.n : Nat) : Int) = 40)) = badLen x := by rw [hd.1]; unfold badLen; congr 1; exact decide_eq_decide.2 (by omega)
  rw [e]; exact this
theorem lens_c {s : SV} {l : List Put} {w : World} {K : Bool → World → Prop} (hl : putsOn (hp w) s l) (hn : l.length ≤ 2 ^ 60) (hk : ∀ w', Keep w w' → K (l.any badLen) w') : c_slices_ContainsFunc_api_Put_api_Put_at_wbuf_Buf_Write_2 s w K := by
  refine slices_ContainsFunc_api_Put_api_Put_at_wbuf_Buf_Write_2_go ?_
  refine slices_IndexFunc_api_Put_api_Put_at_wbuf_Buf_Write_2_go ?_
  exact find_puts (post := fun r w => K (decide (0 ≤ r)) w) (call := fun a d w K => c_wbuf_Buf_Write_2 a d w K) hl hn (fun x _ d w' K _ hd hk => len_c hd hk) fun r w' hw hr => by rw [hr]; exact hk w' hw
theorem len2_c {x : Put} {d : SV} {w : World} {K : Bool → World → Prop} (hd : bytesOn (hp w) d x.data) (hk : ∀ w', Keep w w' → K (badLen x) w') : c_extmap_Map_Apply_1 x.lba d w K := by
  refine extmap_Map_Apply_1_go ?_
  have := hk _ (Keep.alloc w (.cells #[.int .i64 x.lba, .slice d.a d.n d.c] 33))
  simp only [f_extmap_Map_Apply_1, withW_iff, add_mk, World.cell?_alloc_new]
  refine ⟨d, by simp, ?_⟩
  have e : (!decide (((d.n : Nat) : Int) = 40)) = badLen x := by rw [hd.1]; unfold badLen; congr 1; exact decide_eq_decide.2 (by omega)
  rw [e]; exact this
theorem lens2_c {s : SV} {l : List Put} {w : World} {K : Bool → World → Prop} (hl : putsOn (hp w) s l) (hn : l.length ≤ 2 ^ 60) (hk : ∀ w', Keep w w' → K (l.any badLen) w') : c_slices_ContainsFunc_api_Put_api_Put_at_extmap_Map_Apply_1 s w K := by
  refine slices_ContainsFunc_api_Put_api_Put_at_extmap_Map_Apply_1_go ?_
  refine slices_IndexFunc_api_Put_api_Put_at_extmap_Map_Apply_1_go ?_
  exact find_puts (post := fun r w => K (decide (0 ≤ r)) w) (call := fun a d w K => c_extmap_Map_Apply_1 a d w K) hl hn (fun x _ d w' K _ hd hk => len2_c hd hk) fun r w' hw hr => by rw [hr]; exact hk w' hw
theorem out_c {x : Put} {d : SV} {w : World} {K : Bool → World → Prop} {c ad : Addr} {n : Int} (hc : w.cell? c = some (.pointer (some ad))) (hn : w.cell? ad = some (.int .i64 n)) (hk : ∀ w', Keep w w' → K (outOf n x) w') : c_wbuf_Buf_Write_1 x.lba d (some c) w K := by
  refine wbuf_Buf_Write_1_go ?_
  have k1 := Keep.alloc w (.cells #[.int .i64 x.lba, .slice d.a d.n d.c] 33)
  have hk' := hk _ (k1.trans (Keep.drew _))
  simp only [f_wbuf_Buf_Write_1, withW_iff, World.cell?_drew, World.cell?_alloc_new]
  refine ⟨x.lba, by simp, bsplit_decide.2 ⟨fun h => ?_, fun h => ⟨x.lba, by simp, some ad, keep_cell k1 hc, n, keep_cell k1 hn, ?_⟩⟩⟩
  · have : outOf n x = true := by simp [outOf, h]
    rw [this] at hk'; exact hk'
  · have : outOf n x = decide (n ≤ x.lba) := by simp [outOf, h]
    rw [this] at hk'; exact hk'
theorem outs_c {s : SV} {l : List Put} {w : World} {K : Bool → World → Prop} {c ad : Addr} {n : Int} (hl : putsOn (hp w) s l) (hlen : l.length ≤ 2 ^ 60) (hc : w.cell? c = some (.pointer (some ad))) (hn : w.cell? ad = some (.int .i64 n)) (hk : ∀ w', Keep w w' → K (l.any (outOf n)) w') : c_slices_ContainsFunc_api_Put_api_Put_at_wbuf_Buf_Write_1 s (some c) w K := by
  refine slices_ContainsFunc_api_Put_api_Put_at_wbuf_Buf_Write_1_go ?_
  refine slices_IndexFunc_api_Put_api_Put_at_wbuf_Buf_Write_1_go ?_
  exact find_puts (post := fun r w => K (decide (0 ≤ r)) w) (call := fun a d w K => c_wbuf_Buf_Write_1 a d (some c) w K) hl hlen (fun x _ d w' K kw _ hk => out_c (keep_cell kw hc) (keep_cell kw hn) hk) fun r w' hw hr => by rw [hr]; exact hk w' hw
theorem pairwise_adj {l : List Int} (h : ∀ i (h : i + 1 < l.length), l[i] < l[i + 1]) : l.Pairwise (· < ·) := by
  induction l with
  | nil => exact List.Pairwise.nil
  | cons a r ih =>
    have hr := ih fun i hi => h (i + 1) (by simpa using hi)
    refine List.pairwise_cons.2 ⟨fun b hb => ?_, hr⟩
    cases r with
    | nil => simp at hb
    | cons c q =>
      have h0 : a < c := h 0 (by simp)
      rcases List.mem_cons.1 hb with e | e
      · rw [e]; exact h0
      · exact Int.lt_trans h0 ((List.pairwise_cons.1 hr).1 b e)
theorem rise_c {s : SV} {l : List Put} {w : World} {K : Bool → World → Prop} (hl : putsOn (hp w) s l) (hn : l.length ≤ 2 ^ 60) (hk : ∀ w', Keep w w' → K (riseM l) w') : c_extmap_rise s w K := by
  refine extmap_rise_go ?_
  have hsn := hl.1
  refine loop_i (fun (x : Bool × Int) w' => ∃ i : Nat, x.2 = i ∧ 1 ≤ i ∧ (i ≤ l.length ∨ i = 1) ∧ Keep w w' ∧ ∀ j (h1 : j + 1 < l.length), j + 1 < i → l[j].lba < l[j + 1].lba) (fun x _ => l.length - x.2.toNat) ⟨1, rfl, by omega, by omega, Keep.refl w, fun j _ h => by omega⟩ ?_
  rintro ⟨y, x⟩ w' ⟨i, hx, h1i, hi, hw, hall⟩
  simp only at hx; subst hx
  refine bsplit_decide.2 ⟨fun hlt => ?_, fun hge => ?_⟩
  · have hlt' : i < l.length := by simp at hlt; omega
    have e1 : IntKind.i64.wrap ((i : Int) - 1) = ((i - 1 : Nat) : Int) := by rw [wrap_of (by omega) (by omega)]; omega
    obtain ⟨ad, d, ha, h1, _, _⟩ := (putsOn_le (keep_le hw) hl).2 i hlt'
    obtain ⟨ad', d', ha', h1', _, _⟩ := (putsOn_le (keep_le hw) hl).2 (i - 1) (by omega)
    simp only [withW_iff, e1]
    refine ⟨by omega, by omega, onP_i ha ⟨_, h1, by omega, by omega, onP_i ha' ⟨_, h1', bsplit_decide.2 ⟨fun h => ?_, fun h => ?_⟩⟩⟩⟩
    · have : riseM l = false := by
        unfold riseM
        rw [decide_eq_false_iff_not]
        rintro ⟨_, hp⟩
        have := List.pairwise_iff_getElem.1 hp (i - 1) i (by simp; omega) (by simpa using hlt') (by omega)
        simp only [List.getElem_map] at this
        omega
      rw [← this]; exact hk _ (hw.trans (Keep.drew w'))
    · refine ⟨⟨i + 1, by rw [wrap_of (by omega) (by omega)]; rfl, by omega, by omega, hw.trans (Keep.drew w'), fun j h1 hj => ?_⟩, by rw [wrap_of (by omega) (by omega)]; omega⟩
      rcases Nat.lt_succ_iff_lt_or_eq.1 hj with h' | h'
      · exact hall j h1 h'
      · subst h'; simp only [Nat.add_sub_cancel] at h; omega
  · have : riseM l = decide (0 < ((s.n : Nat) : Int)) := by
      have hp : (l.map Put.lba).Pairwise (· < ·) := pairwise_adj fun j hj => by
        simp only [List.length_map] at hj
        simpa using hall j hj (by simp at hge; omega)
      unfold riseM
      simp only [hp, and_true]
      exact decide_eq_decide.2 (by omega)
    rw [← this]; exact hk _ hw
end Go.Proofs.YtbolgpjcmchfoaaGreat
