/- Contracts: the sets of a transaction; how many make a batch. -/
import Derived.Test.YtbolgpjcmchfoaaGreatCj
import Derived.Test.YtbolgpjcmchfoaaGreatMg
namespace Go.Proofs.YtbolgpjcmchfoaaGreat
open Go Go.Vc Go.Sl Go.Mo
theorem wbuf_new {n m : Int} {R : HP} {w : World} {K : Option Addr × Int → World → Prop} (h : Sat R w) (hn : 1 ≤ n ∧ n ≤ 1048576) (hm : 0 ≤ m) (hk : ∀ p w', Sat (bufA p ⟨n, m, []⟩ * R) w' → K (p, 0) w') : c_wbuf_New n m w K := by
  refine wbuf_New_go (bsplit_decide.2 ⟨fun h0 => by omega, fun _ => bsplit_decide.2 ⟨fun h0 => by omega, fun _ => bsplit_decide.2 ⟨fun h0 => by omega, fun _ => ?_⟩⟩⟩)
  rw [withW_iff, withW_iff]
  have h1 : Sat (slmapA byteRow w.heap.size [] * R) (w.alloc (.map #[] 0)) := slmapA_new h
  have h2 : Sat (objA (some ⟨(w.alloc (.map #[] 0)).heap.size, 0, none⟩) [.int .i64 n, .int .i64 m, .map (some w.heap.size)] * (slmapA byteRow w.heap.size [] * R)) ((w.alloc (.map #[] 0)).alloc (.cells [.int .i64 n, .int .i64 m, .map (some w.heap.size)].toArray 170)) := objA_new h1
  exact hk _ _ (bufA_close (B := ⟨n, m, []⟩) h2)
theorem book_new {n : Int} {R : HP} {w : World} {K : Option Addr → World → Prop} (h : Sat R w) (hk : ∀ p w', Sat (bookA p ⟨n, 0, []⟩ * R) w' → K p w') : c_horizon_New n w K := by
  refine horizon_New_go ?_
  unfold f_horizon_New
  rw [withW_iff, withW_iff]
  have h1 : Sat (mapA w.heap.size [] * R) (w.alloc (.map #[] 0)) := mapA_new h
  have h2 : Sat (objA (some ⟨(w.alloc (.map #[] 0)).heap.size, 0, none⟩) [.int .i64 n, .int .i64 0, .map (some w.heap.size)] * (mapA w.heap.size [] * R)) ((w.alloc (.map #[] 0)).alloc (.cells [.int .i64 n, .int .i64 0, .map (some w.heap.size)].toArray 167)) := objA_new h1
  exact hk _ _ (bookA_close (B := ⟨n, 0, []⟩) h2)
theorem readsA_nil {R : HP} {w : World} (h : Sat R w) : Sat (readsA ⟨none, 0, 0⟩ [] * R) w := by
  simp only [readsA, ex_mul, mul_assoc', sat_ex, sat_lift]
  exact ⟨[], rfl, ownS_nil (by simpa [all] using h) rfl rfl⟩
theorem view_new {m b : Addr} {a : Int} {R : HP} {w : World} {K : Option Addr → World → Prop} (h : Sat R w) (hk : ∀ p w', Sat (viewA p (some m) (some b) ⟨a, ⟨64, []⟩, []⟩ * R) w' → K p w') : c_rset_New (some m) (some b) a w K := by
  refine rset_New_go (bsplit_iff.2 ⟨fun e => (by cases e), fun _ => bsplit_iff.2 ⟨fun e => (by cases e), fun _ => set_new h fun sp w2 h2 => ?_⟩⟩)
  rw [withW_iff]
  have h3 : Sat (setA sp ⟨64, []⟩ * (readsA ⟨none, 0, 0⟩ [] * R)) w2 := (readsA_nil h2).eq (by ac_rfl)
  have h4 : Sat (objA (some ⟨w2.heap.size, 0, none⟩) [.pointer (some m), .pointer (some b), .int .i64 a, .pointer sp, .slice none 0 0] * (setA sp ⟨64, []⟩ * (readsA ⟨none, 0, 0⟩ [] * R))) (w2.alloc (.cells [.pointer (some m), .pointer (some b), .int .i64 a, .pointer sp, .slice none 0 0].toArray 174)) := objA_new h3
  exact hk _ _ (viewA_close (V := ⟨a, ⟨64, []⟩, []⟩) (rs := ⟨none, 0, 0⟩) h4)
theorem view_ptr {p m b : Option Addr} {V : View} {R : HP} {w : World} (h : Sat (viewA p m b V * R) w) : ∃ a, p = some ⟨a, 0, none⟩ := by
  obtain ⟨sp, rs, h1⟩ := viewA_open h
  obtain ⟨b, t, rfl, _⟩ := objA_open h1
  exact ⟨b, rfl⟩
theorem emptySet_ok {m : Int} : SetOk ⟨m, []⟩ := ⟨by simp, by simp⟩
theorem view_set {p m b : Option Addr} {V : View} {R : HP} {w : World} {K : Option Addr → World → Prop} (h : Sat (viewA p m b V * R) w) (hl : V.set.l.length ≤ 2 ^ 29) (hk : ∀ p' w', Sat (setA p' (viewSet V) * whole w) w' → K p' w') : c_rset_View_Set p w K := by
  obtain ⟨a, rfl⟩ := view_ptr h
  obtain ⟨sp, rs, h1⟩ := viewA_open h
  refine rset_View_Set_go (set_new (sat_whole w) fun x1 w2 h2 => bsplit_iff.2 ⟨fun _ => ?_, fun e => (by cases e)⟩)
  have h1' := (Keep.whole h2.right).sat h1
  rw [onP_some, add_mk]
  refine ⟨sp, (objA_cells h1').1 3, ?_⟩
  refine set_extents h1'.right (by omega) fun x5 w6 h6 => ?_
  have h6' : Sat (setA x1 ⟨64, []⟩ * (extsA x5 V.set.l * whole w)) w6 := (Sat.frame h6 h2).eq (by ac_rfl)
  refine set_add h6' emptySet_ok (extsA_on h6'.right.left) (by simp; omega) fun w8 h8 => ?_
  have : Sat (extsA x5 V.set.l * (setA x1 (viewSet V) * whole w)) w8 := h8.eq (by unfold viewSet; ac_rfl)
  exact hk _ _ this.right
def lbaOk (k : Int) : Prop := 0 ≤ k ∧ k < 1048576
theorem buf_set {p : Option Addr} {B : Buf} {R : HP} {w : World} {K : Option Addr → World → Prop} (h : Sat (bufA p B * R) w) (ok : BufOk B) (hlb : ∀ q ∈ B.data, lbaOk q.1) (hl : B.data.length ≤ 2 ^ 20)
    (hk : ∀ p' w', SetOk (bufSet B) → Sat (setA p' (bufSet B) * whole w) w' → K p' w') : c_wbuf_Buf_Set p w K := by
  refine wbuf_Buf_Set_go (buf_puts h ok fun x1 w2 h2 => ?_)
  have hon := putsA_on h2.left
  have hxn := hon.1
  have hpl : B.puts.length = B.data.length := by simp [Buf.puts, sortI_length]
  have hpo : ∀ x ∈ B.puts, lbaOk x.lba := fun x hx => by
    obtain ⟨k, hk', rfl⟩ := List.mem_map.1 hx
    have : k ∈ B.data.map Prod.fst := (sortI_perm _).mem_iff.1 hk'
    obtain ⟨q, hq, rfl⟩ := List.mem_map.1 this
    exact hlb q hq
  have hbs : bufSet B = B.puts.foldl (fun S x => (S.add [⟨x.lba, 1⟩]).1) ⟨(B.puts.length : Nat), []⟩ := rfl
  generalize B.puts = ps at *
  rw [hxn]
  refine set_new h2 fun x3 w4 h4 => ?_
  have hlen : ∀ i, i ≤ ps.length → SetOk ((ps.take i).foldl (fun S x => (S.add [⟨x.lba, 1⟩]).1) ⟨(ps.length : Nat), []⟩) ∧ ((ps.take i).foldl (fun (S : XSet) x => (S.add [⟨x.lba, 1⟩]).1) ⟨(ps.length : Nat), []⟩).l.length ≤ i := by
    intro i
    induction i with
    | zero => intro _; exact ⟨emptySet_ok, by simp⟩
    | succ i ih =>
      intro hi
      obtain ⟨h1, h2⟩ := ih (by omega)
      rw [List.take_succ_eq_append_getElem (by omega), List.foldl_append]
      simp only [List.foldl_cons, List.foldl_nil]
      refine ⟨set_add_ok h1 (by simp; omega), ?_⟩
      generalize ((ps.take i).foldl (fun (S : XSet) x => (S.add [⟨x.lba, 1⟩]).1) ⟨(ps.length : Nat), []⟩) = S at h1 h2 ⊢
      unfold XSet.add
      split
      · exact Nat.le_succ_of_le h2
      · split
        · exact Nat.le_succ_of_le h2
        · split
          · exact Nat.le_succ_of_le h2
          · have := joinM_length (S.l ++ [⟨ps[i].lba, 1⟩])
            simp only [List.length_append, List.length_singleton] at this
            simp only; omega
  refine loop_i (fun (x : Int) w' => ∃ i : Nat, x = i ∧ i ≤ ps.length ∧ Sat (setA x3 ((ps.take i).foldl (fun S x => (S.add [⟨x.lba, 1⟩]).1) ⟨(ps.length : Nat), []⟩) * (putsA x1 ps * whole w)) w') (fun x _ => ps.length - x.toNat) ⟨0, rfl, by omega, h4⟩ ?_
  rintro x w6 ⟨i, rfl, hi, hw⟩
  refine bsplit_decide.2 ⟨fun hlt => ?_, fun hge => ?_⟩
  · have hlt' : i < ps.length := by omega
    obtain ⟨ad, d, ha, hc1, hc2, _⟩ := (putsA_on hw.right.left).2 i hlt'
    refine ⟨by omega, by omega, onP_i ha ⟨(ps[i].lba, d), ⟨hc1, hc2⟩, box2 hw fun w11 k11 h11 => ⟨ps[i].lba, (objA_cells h11).1 0, ?_⟩⟩⟩
    rw [withW_iff]
    have h12 := h11.right.alloc (.cells #[.int .i64 ps[i].lba, .int .i64 1] 56)
    have hc0 := h12.cell 0
    have hc01 := h12.cell 1
    have h13 := h12.right
    generalize w11.heap.size = bn at hc0 hc01 ⊢
    have hex : extsOn (hp (w11.alloc (.cells #[.int .i64 ps[i].lba, .int .i64 1] 56))) ⟨some ⟨bn, 0, none⟩, 1, 1⟩ [⟨ps[i].lba, 1⟩] := ⟨rfl, fun j hj => by
      obtain rfl : j = 0 := by simpa using hj
      exact ⟨⟨bn, 0, none⟩, rfl, hc0, hc01⟩⟩
    obtain ⟨o1, o2⟩ := hlen i hi
    refine set_add h13 o1 hex (by simp; omega) fun w15 h15 => ?_
    have e1 : IntKind.i64.wrap ((i : Int) + 1) = ((i + 1 : Nat) : Int) := by rw [wrap_of (by omega) (by omega)]; omega
    refine ⟨⟨i + 1, e1, by omega, ?_⟩, by rw [e1]; simp; omega⟩
    rw [List.take_succ_eq_append_getElem hlt', List.foldl_append]
    exact h15
  · obtain rfl : i = ps.length := by omega
    rw [List.take_length] at hw
    have : Sat (putsA x1 ps * (setA x3 (bufSet B) * whole w)) w6 := hw.eq (by rw [hbs]; ac_rfl)
    refine hk _ _ ?_ this.right
    rw [hbs]
    have := (hlen ps.length (Nat.le_refl _)).1
    rwa [List.take_length] at this
theorem form_c {s : SV} {l : List Tx} {w : World} {K : Int → World → Prop} (hl : txsOn (hp w) s l) (hn : l.length ≤ 2 ^ 20 ∧ ∀ t ∈ l, t.puts.length ≤ 2 ^ 20) (hk : ∀ w', Keep w w' → K (formL l 0 0) w') : c_batch_Form s w K := by
  refine batch_Form_go ?_
  have hsn := hl.1
  refine loop_i (fun (x : Int × Int × Int) w' => ∃ i : Nat, x.2.2 = i ∧ i ≤ l.length ∧ Keep w w' ∧ (0 ≤ x.1 ∧ x.1 ≤ i * 2 ^ 20) ∧ (0 ≤ x.2.1 ∧ x.2.1 ≤ i) ∧ formL l 0 0 = formL (l.drop i) x.1 x.2.1) (fun x _ => l.length - x.2.2.toNat) ⟨0, rfl, by omega, Keep.refl w, by simp, by simp, rfl⟩ ?_
  rintro ⟨a, n, x⟩ w2 ⟨i, hx, hi, kw, ha, hnn, hf⟩
  simp only at hx ha hnn hf; subst hx
  dsimp only
  refine bsplit_decide.2 ⟨fun hlt => ?_, fun hge => ?_⟩
  · have hlt' : i < l.length := by simp at hlt; omega
    obtain ⟨ad, d, had, hc1, hc2, hd⟩ := (txsOn_le (keep_le kw) hl).2 i hlt'
    have hdn := hd.1
    have hpl := hn.2 _ (List.getElem_mem hlt')
    have hdrop : l.drop i = l[i] :: l.drop (i + 1) := List.drop_eq_getElem_cons hlt'
    rw [hdrop] at hf
    simp only [formL] at hf
    refine ⟨by omega, by omega, onP_i had ⟨(l[i].time, d), ⟨hc1, hc2⟩, box2 (sat_whole w2) fun w7 k7 h7 => ?_⟩⟩
    have kk := kw.trans k7
    have hs1 := (objA_cells h7).1 1
    have next : ¬ (8 ≤ n ∨ (0 < n ∧ 32 - a < (l[i].puts.length : Nat))) → ∃ s9 : SV, (w7.cell? ((⟨w2.heap.size, 0, none⟩ : Addr).add 1) = some (.slice s9.a s9.n s9.c)) ∧ (withI (IntKind.i64.wrap (a + ((s9.n : Nat) : Int))) fun i10 => withI (IntKind.i64.wrap (n + 1)) fun i11 =>
        (∃ i_1 : Nat, IntKind.i64.wrap ((i : Int) + 1) = i_1 ∧ i_1 ≤ l.length ∧ Keep w w7 ∧ (0 ≤ i10 ∧ i10 ≤ i_1 * 2 ^ 20) ∧ (0 ≤ i11 ∧ i11 ≤ i_1) ∧ formL l 0 0 = formL (l.drop i_1) i10 i11) ∧ l.length - (IntKind.i64.wrap ((i : Int) + 1)).toNat < l.length - (i : Int).toNat) := by
      intro hno
      rw [if_neg hno] at hf
      refine ⟨d, by rw [add_mk]; exact hs1, ?_⟩
      rw [withI_iff, withI_iff, hdn]
      have e1 : IntKind.i64.wrap ((i : Int) + 1) = ((i + 1 : Nat) : Int) := by rw [wrap_of (by omega) (by omega)]; omega
      rw [e1, wrap_of (x := a + _) (by omega) (by omega), wrap_of (x := n + 1) (by omega) (by omega)]
      exact ⟨⟨i + 1, rfl, by omega, kk, by omega, by omega, hf⟩, by simp; omega⟩
    refine bsplit_decide.2 ⟨fun h8 => ?_, fun h8 => bsplit_decide.2 ⟨fun h0 => ⟨d, by rw [add_mk]; exact hs1, ?_⟩, fun h0 => next (by omega)⟩⟩
    · rw [if_pos (.inl h8)] at hf
      have := hk _ kk
      rw [hf] at this; exact this
    · rw [hdn, wrap_of (by omega) (by omega)]
      refine bsplit_decide.2 ⟨fun h32 => ?_, fun h32 => next (by omega)⟩
      rw [if_pos (.inr ⟨h0, h32⟩)] at hf
      have := hk _ kk
      rw [hf] at this; exact this
  · obtain rfl : i = l.length := by simp at hge; omega
    rw [List.drop_length] at hf
    have := hk _ kw
    rw [hf] at this; exact this
end Go.Proofs.YtbolgpjcmchfoaaGreat
