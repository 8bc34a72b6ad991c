/- Contracts of the program functions up to the manager. -/
import Derived.Test.YtbolgpjcmchfoaaGreatF1
import Derived.Test.YtbolgpjcmchfoaaGreatW
import Derived.Test.YtbolgpjcmchfoaaGreatLk
/- Contracts of functions that only look. -/
namespace Go.Proofs.YtbolgpjcmchfoaaGreat
open Go Go.Vc Go.Sl Go.Mo
theorem gone_some {ad : Addr} {n : Int} {w : World} {K : Bool → World → Prop} (h : w.cell? ad = some (.int .i64 n)) (hk : K (decide (n = 0)) w) : c_extmap_Map_gone (some ad) w K :=
  extmap_Map_gone_go (by simpa [f_extmap_Map_gone, bsplit, onP_some, h] using hk)
theorem blocks_some {ad : Addr} {n : Int} {w : World} {K : Int → World → Prop} (h : w.cell? ad = some (.int .i64 n)) (hk : K n w) : c_extmap_Map_Blocks (some ad) w K :=
  extmap_Map_Blocks_go (by simpa [f_extmap_Map_Blocks, bsplit, onP_some, h] using hk)
theorem block_some {ad : Addr} {n lba : Int} {w : World} {K : Bool → World → Prop} (h : w.cell? ad = some (.int .i64 n)) (hk : K (decide (0 ≤ lba ∧ lba < n)) w) : c_extmap_Map_block (some ad) lba w K := by
  refine extmap_Map_block_go (bsplit_decide.2 ⟨fun h0 => blocks_some h ?_, fun h0 => ?_⟩)
  · simpa [h0] using hk
  · simpa [h0] using hk
theorem room_some {ad : Addr} {n : Int} {w : World} {K : Int → World → Prop} (h : w.cell? ad = some (.int .i64 n)) (hk : K n w) : c_horizon_Book_room (some ad) w K :=
  horizon_Book_room_go (by simpa [f_horizon_Book_room, bsplit, onP_some, h] using hk)
theorem may_c {a : Ext} {w : World} {K : Bool → World → Prop} (hk : ∀ w', Keep w w' → K (may a) w') : c_ival_may a.first a.len w K := by
  have hk' := hk _ (Keep.alloc w (.cells #[.int .i64 a.first, .int .i64 a.len] 56))
  refine ival_may_go ?_
  simp [f_ival_may, withW_iff, bsplit_decide]
  refine ⟨fun h1 => ⟨fun h2 => ⟨fun h3 => ⟨fun h4 => ?_, fun h4 => ?_⟩, fun h3 => ?_⟩, fun h2 => ?_⟩, fun h1 => ?_⟩
  · rw [wrap_of (by omega) (by omega)]
    simpa [may, h1, h2, h3, h4] using hk'
  · have : may a = false := by simp [may]; omega
    simpa [this] using hk'
  · have : may a = false := by simp [may]; omega
    simpa [this] using hk'
  · have : may a = false := by simp [may]; omega
    simpa [this] using hk'
  · have : may a = false := by simp [may]; omega
    simpa [this] using hk'
theorem round_c {k n : Int} {w : World} {K : Int → World → Prop} (hn : 0 < n) (hn' : n ≤ 2 ^ 61) (hk : K (k % n) w) : c_scarpalike_Round k n w K := by
  refine scarpalike_Round_go ⟨rfl, by omega, bsplit_decide.2 ⟨fun h => ?_, fun h => ?_⟩⟩
  · rw [withI_iff]
    have h1 : -n < k.tmod n := Int.lt_tmod_of_pos k hn
    rw [wrap_of (by omega) (by omega)]
    have : k.tmod n + n = k % n := by
      rw [Int.tmod_eq_emod] at h ⊢
      split at h
      · have := Int.emod_nonneg k (b := n) (by omega); omega
      · rename_i h'; rw [if_neg h']; simp only [Int.natAbs_of_nonneg (Int.le_of_lt hn)]; omega
    rw [this]; exact hk
  · have : k.tmod n = k % n := by
      rw [Int.tmod_eq_emod] at h ⊢
      split
      · omega
      · rename_i h'; rw [if_neg h'] at h
        have := Int.emod_lt_of_pos k hn
        simp only [Int.natAbs_of_nonneg (Int.le_of_lt hn)] at h; omega
    rw [this]; exact hk
def byteB (k : Int) (i : Nat) : UInt8 := UInt8.ofNat ((IntKind.i64.wrap ((IntKind.i64.wrap ((IntKind.i64.wrap ((i : Int) * i)) + (IntKind.i64.wrap (k * 7)))) + 1)) % 251).toNat
def blockB (n : Nat) (k : Int) : List UInt8 := (List.range n).map (byteB k)
theorem u8_byte {x : Int} (h0 : 0 ≤ x) (h : x < 251) : IntKind.u8.wrap x = ((UInt8.ofNat x.toNat).toNat : Int) := by
  have : (UInt8.ofNat x.toNat).toNat = x.toNat := by simp [UInt8.toNat_ofNat']; omega
  rw [this]
  simp [IntKind.wrap, IntKind.bits, IntKind.signed]
  omega
theorem block_c {n : Nat} {k : Int} {R : HP} {w : World} {K : SV → World → Prop} (hn : n ≤ 2 ^ 40) (h : Sat R w) (hk : ∀ s w', s.n = n → Sat (ownS 1 s (bytesV (blockB n k)) * R) w' → K s w') : c_scarpalike_Block n k w K := by
  refine scarpalike_Block_go ?_
  have e : (if (0 : Int) > (n : Int) then 0 else (n : Int)) = n := by split <;> omega
  unfold f_scarpalike_Block
  rw [e]
  refine ⟨by omega, Int.le_refl _, by omega, by omega, ?_⟩
  have hz : zrow [Value.int .u8 0] n = List.replicate n (.int .u8 0) := by
    clear hk hn e
    induction n with
    | zero => rfl
    | succ n ih => simp [zrow, ih, List.replicate_succ]
  simp only [Int.toNat_natCast, withW_iff, hz]
  have h1 := h.alloc (.cells (List.replicate n (Value.int .u8 0)).toArray 5)
  generalize w.heap.size = b at h1 ⊢
  refine loop_i (fun (x : Int) w' => ∃ i : Nat, x = i ∧ i ≤ n ∧ Sat (pt b (.cells (bytesV (blockB i k) ++ List.replicate (n - i) (Value.int .u8 0)).toArray 5) * R) w') (fun x _ => n - x.toNat) ⟨0, rfl, by omega, by simpa [blockB, bytesV] using h1⟩ ?_
  rintro x w' ⟨i, rfl, hi, hw⟩
  refine bsplit_decide.2 ⟨fun hlt => ?_, fun hge => ?_⟩
  · have hlt' : i < n := by omega
    refine round_c (by omega) (by omega) ⟨by omega, hlt, ?_⟩
    simp only [add_mk, Nat.zero_add, Nat.mul_one, Int.toNat_natCast]
    refine ⟨⟨?_, hw.frozen _⟩, trivial, ?_⟩
    · rw [hw.cell]
      exact exists_get (by simp [blockB, bytesV]; omega)
    · refine ⟨⟨i + 1, by rw [wrap_of (by omega) (by omega)]; omega, by omega, ?_⟩, by rw [wrap_of (by omega) (by omega)]; omega⟩
      have h2 := hw.setCell i (.int .u8 (IntKind.u8.wrap ((IntKind.i64.wrap ((IntKind.i64.wrap ((IntKind.i64.wrap ((i : Int) * i)) + (IntKind.i64.wrap (k * 7)))) + 1)) % 251)))
      refine h2.eq ?_
      congr 2
      rw [List.setIfInBounds_toArray]
      congr 1
      congr 1
      have e1 : n - i = (n - (i + 1)) + 1 := by omega
      rw [e1, List.replicate_succ, List.set_append_right _ _ (by simp [blockB, bytesV])]
      have e2 : i - (bytesV (blockB i k)).length = 0 := by simp [blockB, bytesV]
      rw [e2]
      have e3 : blockB (i + 1) k = blockB i k ++ [byteB k i] := by simp [blockB, List.range_succ]
      rw [e3, u8_byte (Int.emod_nonneg _ (by omega)) (Int.emod_lt_of_pos _ (by omega))]
      simp [byteB, bytesV]
  · obtain rfl : i = n := by omega
    refine hk _ _ rfl ?_
    refine ownS_mk (sp := []) (t := 5) (by simpa using hw) ?_ (Nat.le_refl _) ?_
    · simp [bytesV, blockB]
    · simp [bytesV, blockB]
theorem data_c {k : Int} {R : HP} {w : World} {K : SV → World → Prop} (h : Sat R w) (hk : ∀ s w', s.n = 40 → Sat (ownS 1 s (bytesV (blockB 40 k)) * R) w' → K s w') : c_scarpalike_Data k w K :=
  scarpalike_Data_go (block_c (n := 40) (by omega) h hk)
theorem blockB_length (n : Nat) (k : Int) : (blockB n k).length = n := by simp [blockB]
theorem u8_inj {a b : UInt8} (h : (a.toNat : Int) = b.toNat) : a = b := UInt8.toNat_inj.1 (by omega)
theorem bytes_c {s t : SV} {l m : List UInt8} {w : World} {K : Bool → World → Prop} (hs : bytesOn (hp w) s l) (ht : bytesOn (hp w) t m) (hl : l.length ≤ 2 ^ 60) (hk : ∀ w', Keep w w' → K (decide (l = m)) w') : c_scarpalike_Bytes s t w K := by
  refine scarpalike_Bytes_go ?_
  unfold f_scarpalike_Bytes
  rw [hs.1, ht.1]
  refine bsplit_iff.2 ⟨fun h => ?_, fun h => ?_⟩
  · have : ¬ l = m := by rintro rfl; simp at h
    simpa [this] using hk w (Keep.refl w)
  have hlen : l.length = m.length := by simp at h; omega
  refine loop_i (fun (x : Bool × Int) w' => ∃ i : Nat, x.2 = i ∧ i ≤ l.length ∧ Keep w w' ∧ ∀ j (h1 : j < l.length) (h2 : j < m.length), j < i → l[j] = m[j]) (fun x _ => l.length - x.2.toNat) ⟨0, rfl, by omega, Keep.refl w, fun j _ _ h => by omega⟩ ?_
  rintro ⟨b, x⟩ w' ⟨i, hx, hi, hw, hall⟩
  simp only at hx; subst hx
  refine bsplit_decide.2 ⟨fun hlt => ?_, fun hge => ?_⟩
  · have hlt' : i < l.length := by simp at hlt; omega
    obtain ⟨a1, ha1, hc1⟩ := bytesOn_get (bytesOn_le (keep_le hw) hs) hlt'
    obtain ⟨a2, ha2, hc2⟩ := bytesOn_get (bytesOn_le (keep_le hw) ht) (show i < m.length by omega)
    simp only [withW_iff, Int.toNat_natCast, Nat.mul_one]
    refine ⟨by omega, by omega, onP_i ha1 ⟨_, hc1, by omega, by omega, onP_i ha2 ⟨_, hc2, bsplit_iff.2 ⟨fun h => ?_, fun h => ?_⟩⟩⟩⟩
    · have : ¬ l = m := by
        rintro rfl; simp at h
      simpa [this] using hk _ (hw.trans (Keep.drew w'))
    · have he : l[i] = m[i] := u8_inj (by simpa using h)
      refine ⟨⟨i + 1, by rw [wrap_of (by omega) (by omega)]; rfl, by omega, hw.trans (Keep.drew w'), fun j h1 h2 hj => ?_⟩, by rw [wrap_of (by omega) (by omega)]; omega⟩
      rcases Nat.lt_succ_iff_lt_or_eq.1 hj with h' | h'
      · exact hall j h1 h2 h'
      · subst h'; exact he
  · have : l = m := List.ext_getElem hlen fun j h1 h2 => hall j h1 h2 (by simp at hge; omega)
    simpa [this] using hk _ hw
theorem all_one_bytes (l : List UInt8) : (bytesV l).all Vc.one = true := by simp [bytesV, Vc.one]
/-- A copy of a row: the library's slices.Clone, whatever the elements. -/
theorem clone_i {sz bytes e : Nat} {z vs : List Value} {s : SV} {R : HP} {w : World} {K : SV → World → Prop} (h : Sat R w) (hl : rowOn (hp w) s vs) (hn : vs.length = s.n * sz) (h1 : vs.all Vc.one = true) (hc : s.n * bytes ≤ 2 ^ 44) (hb : 0 < bytes ∧ bytes ≤ 2 ^ 20) (hz : z.length = sz) (hsz : 0 < sz)
    (hk : ∀ s' w', s'.n = s.n → Sat (ownS sz s' vs * R) w' → K s' w') :
    bsplit (s.a).isNone (K ⟨none, 0, 0⟩ w) (withW (w.alloc (.cells #[] e)) fun w1 => appendR ⟨some ⟨w.heap.size, 0, none⟩, 0, 0⟩ s sz bytes z e w1 fun s2 w3 => K ⟨s2.a, s2.n, s2.c⟩ w3) := by
  refine bsplit_iff.2 ⟨fun hs => ?_, fun hs => ?_⟩
  · have : vs = [] := hl.1 (by simpa using hs)
    subst this
    have h0 : s.n = 0 := by
      have : s.n * sz = 0 := by simpa using hn.symm
      rcases Nat.mul_eq_zero.1 this with h | h <;> omega
    exact hk _ _ h0.symm (ownS_nil h rfl rfl)
  · rw [withW_iff]
    have k1 := Keep.alloc w (.cells #[] e)
    refine append_own (vs := []) (R := R) (news := vs) (ownS_nil (k1.sat h) rfl rfl) hn h1 (rowOn_cells (rowOn_le (keep_le k1) hl)) (fun ha => ?_) (by simpa using hc) hb hz fun s' w' hs' hw' => ?_
    · rw [ha] at hs; simp at hs
    · exact hk s' w' (by simpa using hs') (by simpa using hw')
theorem clone_bytes {s : SV} {l : List UInt8} {R : HP} {w : World} {K : SV → World → Prop} (h : Sat R w) (hl : bytesOn (hp w) s l) (hc : l.length ≤ 2 ^ 40) (hk : ∀ s' w', s'.n = l.length → Sat (ownS 1 s' (bytesV l) * R) w' → K s' w') : c_slices_Clone_byte_byte s w K :=
  slices_Clone_byte_byte_go (clone_i h hl.2 (by simp [bytesV, hl.1]) (all_one_bytes l) (by rw [hl.1]; omega) (by omega) rfl (by omega) fun s' w' e hs => hk s' w' (e.trans hl.1) hs)
end Go.Proofs.YtbolgpjcmchfoaaGreat
/- Contracts of functions that look at lists of puts. -/
namespace Go.Proofs.YtbolgpjcmchfoaaGreat
open Go Go.Vc Go.Sl Go.Mo
abbrev putB (s : SV) (call : Int → SV → World → (Bool → World → Prop) → Prop) (x : Int) (w : World) (K : Bool → World → Prop) : Prop :=
  0 ≤ x ∧ x < ((s.n : Nat) : Int) ∧ onP s.a fun p => ∃ g : Int × SV, (w.cell? (p.add (x.toNat * 2)) = some (.int .i64 g.1) ∧ w.cell? ((p.add (x.toNat * 2)).add 1) = some (.slice g.2.a g.2.n g.2.c)) ∧ call g.1 g.2 w K
/-- slices.IndexFunc on puts, for whatever predicate. -/
theorem find_puts {s : SV} {l : List Put} {w : World} {p : Put → Bool} {call : Int → SV → World → (Bool → World → Prop) → Prop} {post : Int → World → Prop} (hl : putsOn (hp w) s l) (hn : l.length ≤ 2 ^ 60)
    (hcall : ∀ (x : Put) (_ : x ∈ l) (d : SV) (w' : World) (K : Bool → World → Prop), Keep w w' → bytesOn (hp w') d x.data → (∀ w'', Keep w' w'' → K (p x) w'') → call x.lba d w' K)
    (hk : ∀ r w', Keep w w' → decide (0 ≤ r) = l.any p → post r w') :
    loopR (α := Int × Int) (0, 0) w fun x1 w2 next3 => bsplit (decide ((x1.2 : Int) < ((s.n : Nat) : Int))) (putB s call x1.2 w2 fun b w7 => bsplit b (post x1.2 w7) (next3 (x1.1, IntKind.i64.wrap (x1.2 + 1)) w7)) (post (-1) w2) := by
  have hsn := hl.1
  refine loop_i (fun (x : Int × Int) w' => ∃ i : Nat, x.2 = i ∧ i ≤ l.length ∧ Keep w w' ∧ ∀ j (h1 : j < l.length), j < i → p l[j] = false) (fun x _ => l.length - x.2.toNat) ⟨0, rfl, by omega, Keep.refl w, fun j _ h => by omega⟩ ?_
  rintro ⟨y, x⟩ w' ⟨i, hx, hi, hw, hall⟩
  simp only at hx; subst hx
  refine bsplit_decide.2 ⟨fun hlt => ?_, fun hge => ?_⟩
  · have hlt' : i < l.length := by simp at hlt; omega
    obtain ⟨ad, d, ha, h1, h2, h3⟩ := (putsOn_le (keep_le hw) hl).2 i hlt'
    refine ⟨by omega, by omega, onP_i ha ⟨(l[i].lba, d), ⟨h1, h2⟩, hcall l[i] (List.getElem_mem hlt') d w' _ hw h3 fun w'' hw'' => bsplit_iff.2 ⟨fun hp => ?_, fun hp => ?_⟩⟩⟩
    · refine hk _ _ (hw.trans hw'') ?_
      have : l.any p = true := List.any_eq_true.2 ⟨l[i], List.getElem_mem hlt', hp⟩
      simp [this]
    · refine ⟨⟨i + 1, by rw [wrap_of (by omega) (by omega)]; rfl, by omega, hw.trans hw'', fun j h1 hj => ?_⟩, by rw [wrap_of (by omega) (by omega)]; omega⟩
      rcases Nat.lt_succ_iff_lt_or_eq.1 hj with h' | h'
      · exact hall j h1 h'
      · subst h'; exact hp
  · refine hk _ _ hw ?_
    have : l.any p = false := by
      rw [List.any_eq_false]
      intro x hx
      obtain ⟨j, hj, rfl⟩ := List.getElem_of_mem hx
      simpa using hall j hj (by simp at hge; omega)
    rw [this]; rfl
theorem len_c {x : Put} {d : SV} {w : World} {K : Bool → World → Prop} (hd : bytesOn (hp w) d x.data) (hk : ∀ w', Keep w w' → K (badLen x) w') : c_wbuf_Buf_Write_2 x.lba d w K := by
  refine wbuf_Buf_Write_2_go ?_
  have := hk _ (Keep.alloc w (.cells #[.int .i64 x.lba, .slice d.a d.n d.c] 33))
  simp only [f_wbuf_Buf_Write_2, withW_iff, add_mk, World.cell?_alloc_new]
  refine ⟨d, by simp, ?_⟩
  have e : (!decide (((d.n : Nat) : Int) = 40)) = badLen x := by rw [hd.1]; unfold badLen; congr 1; exact decide_eq_decide.2 (by omega)
  rw [e]; exact this
theorem lens_c {s : SV} {l : List Put} {w : World} {K : Bool → World → Prop} (hl : putsOn (hp w) s l) (hn : l.length ≤ 2 ^ 60) (hk : ∀ w', Keep w w' → K (l.any badLen) w') : c_slices_ContainsFunc_api_Put_api_Put_at_wbuf_Buf_Write_2 s w K := by
  refine slices_ContainsFunc_api_Put_api_Put_at_wbuf_Buf_Write_2_go ?_
  refine slices_IndexFunc_api_Put_api_Put_at_wbuf_Buf_Write_2_go ?_
  exact find_puts (post := fun r w => K (decide (0 ≤ r)) w) (call := fun a d w K => c_wbuf_Buf_Write_2 a d w K) hl hn (fun x _ d w' K _ hd hk => len_c hd hk) fun r w' hw hr => by rw [hr]; exact hk w' hw
theorem len2_c {x : Put} {d : SV} {w : World} {K : Bool → World → Prop} (hd : bytesOn (hp w) d x.data) (hk : ∀ w', Keep w w' → K (badLen x) w') : c_extmap_Map_Apply_1 x.lba d w K := by
  refine extmap_Map_Apply_1_go ?_
  have := hk _ (Keep.alloc w (.cells #[.int .i64 x.lba, .slice d.a d.n d.c] 33))
  simp only [f_extmap_Map_Apply_1, withW_iff, add_mk, World.cell?_alloc_new]
  refine ⟨d, by simp, ?_⟩
  have e : (!decide (((d.n : Nat) : Int) = 40)) = badLen x := by rw [hd.1]; unfold badLen; congr 1; exact decide_eq_decide.2 (by omega)
  rw [e]; exact this
theorem lens2_c {s : SV} {l : List Put} {w : World} {K : Bool → World → Prop} (hl : putsOn (hp w) s l) (hn : l.length ≤ 2 ^ 60) (hk : ∀ w', Keep w w' → K (l.any badLen) w') : c_slices_ContainsFunc_api_Put_api_Put_at_extmap_Map_Apply_1 s w K := by
  refine slices_ContainsFunc_api_Put_api_Put_at_extmap_Map_Apply_1_go ?_
  refine slices_IndexFunc_api_Put_api_Put_at_extmap_Map_Apply_1_go ?_
  exact find_puts (post := fun r w => K (decide (0 ≤ r)) w) (call := fun a d w K => c_extmap_Map_Apply_1 a d w K) hl hn (fun x _ d w' K _ hd hk => len2_c hd hk) fun r w' hw hr => by rw [hr]; exact hk w' hw
theorem out_c {x : Put} {d : SV} {w : World} {K : Bool → World → Prop} {c ad : Addr} {n : Int} (hc : w.cell? c = some (.pointer (some ad))) (hn : w.cell? ad = some (.int .i64 n)) (hk : ∀ w', Keep w w' → K (outOf n x) w') : c_wbuf_Buf_Write_1 x.lba d (some c) w K := by
  refine wbuf_Buf_Write_1_go ?_
  have k1 := Keep.alloc w (.cells #[.int .i64 x.lba, .slice d.a d.n d.c] 33)
  have hk' := hk _ (k1.trans (Keep.drew _))
  simp only [f_wbuf_Buf_Write_1, withW_iff, World.cell?_drew, World.cell?_alloc_new]
  refine ⟨x.lba, by simp, bsplit_decide.2 ⟨fun h => ?_, fun h => ⟨x.lba, by simp, some ad, keep_cell k1 hc, n, keep_cell k1 hn, ?_⟩⟩⟩
  · have : outOf n x = true := by simp [outOf, h]
    rw [this] at hk'; exact hk'
  · have : outOf n x = decide (n ≤ x.lba) := by simp [outOf, h]
    rw [this] at hk'; exact hk'
theorem outs_c {s : SV} {l : List Put} {w : World} {K : Bool → World → Prop} {c ad : Addr} {n : Int} (hl : putsOn (hp w) s l) (hlen : l.length ≤ 2 ^ 60) (hc : w.cell? c = some (.pointer (some ad))) (hn : w.cell? ad = some (.int .i64 n)) (hk : ∀ w', Keep w w' → K (l.any (outOf n)) w') : c_slices_ContainsFunc_api_Put_api_Put_at_wbuf_Buf_Write_1 s (some c) w K := by
  refine slices_ContainsFunc_api_Put_api_Put_at_wbuf_Buf_Write_1_go ?_
  refine slices_IndexFunc_api_Put_api_Put_at_wbuf_Buf_Write_1_go ?_
  exact find_puts (post := fun r w => K (decide (0 ≤ r)) w) (call := fun a d w K => c_wbuf_Buf_Write_1 a d (some c) w K) hl hlen (fun x _ d w' K kw _ hk => out_c (keep_cell kw hc) (keep_cell kw hn) hk) fun r w' hw hr => by rw [hr]; exact hk w' hw
theorem pairwise_adj {l : List Int} (h : ∀ i (h : i + 1 < l.length), l[i] < l[i + 1]) : l.Pairwise (· < ·) := by
  induction l with
  | nil => exact List.Pairwise.nil
  | cons a r ih =>
    have hr := ih fun i hi => h (i + 1) (by simpa using hi)
    refine List.pairwise_cons.2 ⟨fun b hb => ?_, hr⟩
    cases r with
    | nil => simp at hb
    | cons c q =>
      have h0 : a < c := h 0 (by simp)
      rcases List.mem_cons.1 hb with e | e
      · rw [e]; exact h0
      · exact Int.lt_trans h0 ((List.pairwise_cons.1 hr).1 b e)
theorem rise_c {s : SV} {l : List Put} {w : World} {K : Bool → World → Prop} (hl : putsOn (hp w) s l) (hn : l.length ≤ 2 ^ 60) (hk : ∀ w', Keep w w' → K (riseM l) w') : c_extmap_rise s w K := by
  refine extmap_rise_go ?_
  have hsn := hl.1
  refine loop_i (fun (x : Bool × Int) w' => ∃ i : Nat, x.2 = i ∧ 1 ≤ i ∧ (i ≤ l.length ∨ i = 1) ∧ Keep w w' ∧ ∀ j (h1 : j + 1 < l.length), j + 1 < i → l[j].lba < l[j + 1].lba) (fun x _ => l.length - x.2.toNat) ⟨1, rfl, by omega, by omega, Keep.refl w, fun j _ h => by omega⟩ ?_
  rintro ⟨y, x⟩ w' ⟨i, hx, h1i, hi, hw, hall⟩
  simp only at hx; subst hx
  refine bsplit_decide.2 ⟨fun hlt => ?_, fun hge => ?_⟩
  · have hlt' : i < l.length := by simp at hlt; omega
    have e1 : IntKind.i64.wrap ((i : Int) - 1) = ((i - 1 : Nat) : Int) := by rw [wrap_of (by omega) (by omega)]; omega
    obtain ⟨ad, d, ha, h1, _, _⟩ := (putsOn_le (keep_le hw) hl).2 i hlt'
    obtain ⟨ad', d', ha', h1', _, _⟩ := (putsOn_le (keep_le hw) hl).2 (i - 1) (by omega)
    simp only [withW_iff, e1]
    refine ⟨by omega, by omega, onP_i ha ⟨_, h1, by omega, by omega, onP_i ha' ⟨_, h1', bsplit_decide.2 ⟨fun h => ?_, fun h => ?_⟩⟩⟩⟩
    · have : riseM l = false := by
        unfold riseM
        rw [decide_eq_false_iff_not]
        rintro ⟨_, hp⟩
        have := List.pairwise_iff_getElem.1 hp (i - 1) i (by simp; omega) (by simpa using hlt') (by omega)
        simp only [List.getElem_map] at this
        omega
      rw [← this]; exact hk _ (hw.trans (Keep.drew w'))
    · refine ⟨⟨i + 1, by rw [wrap_of (by omega) (by omega)]; rfl, by omega, by omega, hw.trans (Keep.drew w'), fun j h1 hj => ?_⟩, by rw [wrap_of (by omega) (by omega)]; omega⟩
      rcases Nat.lt_succ_iff_lt_or_eq.1 hj with h' | h'
      · exact hall j h1 h'
      · subst h'; simp only [Nat.add_sub_cancel] at h; omega
  · have : riseM l = decide (0 < ((s.n : Nat) : Int)) := by
      have hp : (l.map Put.lba).Pairwise (· < ·) := pairwise_adj fun j hj => by
        simp only [List.length_map] at hj
        simpa using hall j hj (by simp at hge; omega)
      unfold riseM
      simp only [hp, and_true]
      exact decide_eq_decide.2 (by omega)
    rw [← this]; exact hk _ hw
end Go.Proofs.YtbolgpjcmchfoaaGreat
/- Contracts of the write buffer: what it takes in. -/
namespace Go.Proofs.YtbolgpjcmchfoaaGreat
open Go Go.Vc Go.Sl Go.Mo
/-- A variable of two cells that is laid and written at once. -/
theorem box2 {z1 z2 v1 v2 : Value} {t : Nat} {R : HP} {w : World} {K : World → Prop} (h : Sat R w) (hk : ∀ w', Keep w w' → Sat (objA (some ⟨w.heap.size, 0, none⟩) [v1, v2] * R) w' → K w') :
    withW (w.alloc (.cells #[z1, z2] t)) fun w7 => (((∃ u, w7.cell? (⟨w.heap.size, 0, none⟩ : Addr) = some u) ∧ w7.frozen? (⟨w.heap.size, 0, none⟩ : Addr) = false) ∧ ((∃ u, w7.cell? ((⟨w.heap.size, 0, none⟩ : Addr).add 1) = some u) ∧ w7.frozen? ((⟨w.heap.size, 0, none⟩ : Addr).add 1) = false)) ∧ (true = true) ∧
      withW ((w7.setCell (⟨w.heap.size, 0, none⟩ : Addr) v1).setCell ((⟨w.heap.size, 0, none⟩ : Addr).add 1) v2) K := by
  have h1 : Sat (objA (some ⟨w.heap.size, 0, none⟩) [z1, z2] * R) (w.alloc (.cells [z1, z2].toArray t)) := objA_new h
  have hw : Sat (objA (some ⟨w.heap.size, 0, none⟩) [z1, z2] * whole w) (w.alloc (.cells [z1, z2].toArray t)) := objA_new (sat_whole w)
  obtain ⟨hc, hf⟩ := objA_cells h1
  rw [withW_iff, add_mk, Nat.zero_add]
  refine ⟨⟨⟨⟨z1, hc 0⟩, hf 0⟩, ⟨z2, hc 1⟩, hf 1⟩, rfl, ?_⟩
  have h2 := objA_set (objA_set h1 0 v1) 1 v2
  have hw2 := objA_set (objA_set hw 0 v1) 1 v2
  exact hk _ (Keep.whole hw2.right) h2
theorem take_succ_map {l : List Put} {i : Nat} (h : i < l.length) : (l.take (i + 1)).map Put.lba = (l.take i).map Put.lba ++ [l[i].lba] := by
  rw [List.take_succ_eq_append_getElem h, List.map_append, List.map_cons, List.map_nil]
theorem twice_c {s : SV} {l : List Put} {w : World} {K : Bool → World → Prop} (hl : putsOn (hp w) s l) (hn : l.length ≤ 2 ^ 60) (hk : ∀ w', Keep w w' → K (twiceM l) w') : c_wbuf_twice s w K := by
  refine wbuf_twice_go ?_
  have hsn := hl.1
  unfold f_wbuf_twice
  rw [withW_iff]
  have h0 : Sat (mapA w.heap.size [] * whole w) (w.alloc (.map #[] 0)) := mapA_new (sat_whole w)
  generalize w.heap.size = b at h0 ⊢
  refine loop_i (fun (x : Bool × Int) w' => ∃ (i : Nat) (m : List (Int × Value)), x.2 = i ∧ i ≤ l.length ∧ Sat (mapA b m * whole w) w' ∧ ((l.take i).map Put.lba).Nodup ∧ ∀ k, lkp m k = if k ∈ (l.take i).map Put.lba then some (.int .i64 1) else none) (fun x _ => l.length - x.2.toNat)
    ⟨0, [], rfl, by omega, h0, by simp, fun k => by simp [lkp]⟩ ?_
  rintro ⟨y, x⟩ w1 ⟨i, m, hx, hi, hw, hnd, hm⟩
  simp only at hx; subst hx
  have kw : Keep w w1 := Keep.whole hw.right
  refine bsplit_decide.2 ⟨fun hlt => ?_, fun hge => ?_⟩
  · have hlt' : i < l.length := by simp at hlt; omega
    obtain ⟨ad, d, ha, h1, h2, _⟩ := (putsOn_le (keep_le kw) hl).2 i hlt'
    refine ⟨by omega, by omega, onP_i ha ⟨(l[i].lba, d), ⟨h1, h2⟩, box2 hw fun w2 _ hw2 => ?_⟩⟩
    obtain ⟨hc, _⟩ := objA_cells hw2
    have hwm : Sat (mapA b m * (objA (some ⟨w1.heap.size, 0, none⟩) [.int .i64 l[i].lba, .slice d.a d.n d.c] * whole w)) w2 := hw2.eq (by ac_rfl)
    refine ⟨l[i].lba, hc 0, rfl, ?_⟩
    have hx : ∃ x : Int, (lkp m l[i].lba).getD (.int .i64 0) = .int .i64 x ∧ x = if l[i].lba ∈ (l.take i).map Put.lba then 1 else 0 := by
      rw [hm]; split
      · exact ⟨1, rfl, rfl⟩
      · exact ⟨0, rfl, rfl⟩
    obtain ⟨x, hx, hxe⟩ := hx
    have hx1 : 0 ≤ x ∧ x ≤ 1 := by split at hxe <;> omega
    obtain ⟨es, hcl, hf, _⟩ := mapA_get hwm
    refine ⟨es, hcl, x, by rw [hf]; exact hx, rfl, ?_⟩
    obtain ⟨es2, cl2, hm2, _, hw3⟩ := mapA_put hwm l[i].lba (.int .i64 (IntKind.i64.wrap (x + 1)))
    refine ⟨es2, cl2, hm2, gen_w hw3 fun w3 hw3 => ?_⟩
    have hwo : Sat (objA (some ⟨w1.heap.size, 0, none⟩) [.int .i64 l[i].lba, .slice d.a d.n d.c] * (mapA b (put m l[i].lba (.int .i64 (IntKind.i64.wrap (x + 1)))) * whole w)) w3 := hw3.eq (by ac_rfl)
    obtain ⟨hc3, _⟩ := objA_cells hwo
    refine ⟨l[i].lba, hc3 0, rfl, ?_⟩
    obtain ⟨es4, hcl4, hf4, _⟩ := mapA_get hw3
    refine ⟨es4, hcl4, x + 1, by rw [hf4, lkp_put, wrap_of (by omega) (by omega)]; simp, bsplit_decide.2 ⟨fun h => ?_, fun h => ?_⟩⟩
    · have hnew : l[i].lba ∉ (l.take i).map Put.lba := by
        intro h'; rw [if_pos h'] at hxe; omega
      have e1 : IntKind.i64.wrap ((i : Int) + 1) = ((i + 1 : Nat) : Int) := by rw [wrap_of (by omega) (by omega)]; omega
      refine ⟨⟨i + 1, _, e1, by omega, (hw3.eq (by ac_rfl : _ = objA (some ⟨w1.heap.size, 0, none⟩) [.int .i64 l[i].lba, .slice d.a d.n d.c] * (mapA b (put m l[i].lba (.int .i64 (IntKind.i64.wrap (x + 1)))) * whole w))).right, ?_, fun k => ?_⟩, by simp only [e1]; omega⟩
      · rw [take_succ_map hlt', List.nodup_append]
        exact ⟨hnd, by simp, fun a ha b hb => by simp at hb; subst hb; exact fun e => hnew (e ▸ ha)⟩
      · rw [take_succ_map hlt', lkp_put, wrap_of (by omega) (by omega), h, hm]
        simp only [List.mem_append, List.mem_singleton]
        by_cases hk' : k = l[i].lba
        · simp [hk']
        · simp [hk']
    · have : twiceM l = true := by
        have hin : l[i].lba ∈ (l.take i).map Put.lba := by
          refine Classical.byContradiction fun h' => ?_
          rw [if_neg h'] at hxe; omega
        unfold twiceM
        simp only [Bool.not_eq_true', decide_eq_false_iff_not]
        intro hnd'
        have h5 : ((l.take (i + 1)).map Put.lba).Nodup := hnd'.sublist ((List.take_sublist _ _).map _)
        rw [take_succ_map hlt', List.nodup_append] at h5
        exact h5.2.2 _ hin _ (by simp) rfl
      rw [← this]
      exact hk _ (Keep.whole hw3.right.right)
  · have : twiceM l = false := by
      have : i = l.length := by simp at hge; omega
      subst this
      rw [List.take_length] at hnd
      simp [twiceM, hnd]
    rw [← this]
    exact hk _ kw
theorem putsIn_take {d : List (Int × List UInt8)} {l : List Put} {i : Nat} (h : i < l.length) : putsIn d (l.take (i + 1)) = put (putsIn d (l.take i)) l[i].lba l[i].data := by
  unfold putsIn
  rw [List.take_succ_eq_append_getElem h, List.foldl_append]; rfl
theorem newOnes_take {d : List (Int × List UInt8)} {l : List Put} {i : Nat} (h : i < l.length) : newOnes d (l.take (i + 1)) = newOnes d (l.take i) + if (lkp d l[i].lba).isNone then 1 else 0 := by
  unfold newOnes
  rw [List.take_succ_eq_append_getElem h, List.filter_append, List.length_append]
  congr 1
  simp only [List.filter_cons, List.filter_nil]
  split <;> simp_all
theorem newOnes_le (d : List (Int × List UInt8)) (l : List Put) : newOnes d l ≤ l.length := List.length_filter_le _ _
theorem buf_write {p : Option Addr} {B : Buf} {s : SV} {l : List Put} {R : HP} {w : World} {K : Int → World → Prop} (h : Sat (bufA p B * R) w) (hs : ∀ w', Sat R w' → putsOn (hp w') s l) (hn : l.length ≤ 2 ^ 40) (hb : B.data.length ≤ 2 ^ 40)
    (hk : ∀ w', Sat (bufA p (B.write l).1 * R) w' → K (B.write l).2 w') : c_wbuf_Buf_Write p s w K := by
  refine wbuf_Buf_Write_go ?_
  have hsn : s.n = l.length := (hs w h.right).1
  unfold f_wbuf_Buf_Write
  rw [withW_iff]
  obtain ⟨r0, hx⟩ := bufA_open h
  obtain ⟨bp, tp, rfl, hx'⟩ := objA_open hx
  clear hx hx' r0 tp
  have h1 := objA_new (t := 108) (vs := [.pointer (some ⟨bp, 0, none⟩)]) h
  generalize w.heap.size = bx at h1 ⊢
  generalize w.alloc _ = w1 at h1 ⊢
  refine bsplit_decide.2 ⟨fun h0 => ?_, fun h0 => ?_⟩
  · have : B.write l = (B, 1) := by unfold Buf.write; rw [if_pos (by omega)]
    rw [this] at hk; exact hk _ h1.right
  have hne : ¬ l.length = 0 := by omega
  refine ⟨some ⟨bp, 0, none⟩, (objA_cells h1).1 0, ?_⟩
  obtain ⟨r, h2⟩ := bufA_open (h1.eq (by ac_rfl : _ = bufA (some ⟨bp, 0, none⟩) B * (objA (some ⟨bx, 0, none⟩) [.pointer (some ⟨bp, 0, none⟩)] * R)))
  refine outs_c (hs _ h1.right.right) (by omega) ((objA_cells h1).1 0) ((objA_cells h2).1 0) fun w4 k4 => bsplit_iff.2 ⟨fun hc => ?_, fun hc => ?_⟩
  · have : B.write l = (B, 2) := by unfold Buf.write; rw [if_neg hne, if_pos hc]
    rw [this] at hk; exact hk _ (k4.sat h1.right)
  refine lens_c (hs _ (k4.sat h1.right.right)) (by omega) fun w6 k6 => bsplit_iff.2 ⟨fun hc2 => ?_, fun hc2 => ?_⟩
  · have : B.write l = (B, 3) := by unfold Buf.write; rw [if_neg hne, if_neg (by simp [hc]), if_pos hc2]
    rw [this] at hk; exact hk _ (k6.sat (k4.sat h1.right))
  refine twice_c (hs _ (k6.sat (k4.sat h1.right.right))) (by omega) fun w8 k8 => bsplit_iff.2 ⟨fun hc3 => ?_, fun hc3 => ?_⟩
  · have : B.write l = (B, 4) := by unfold Buf.write; rw [if_neg hne, if_neg (by simp [hc]), if_neg (by simp [hc2]), if_pos hc3]
    rw [this] at hk; exact hk _ (k8.sat (k6.sat (k4.sat h1.right)))
  have h8 := k8.sat (k6.sat (k4.sat h2))
  clear h1 h2 k4 k6 k8 h
  have h8b : Sat (objA (some ⟨bx, 0, none⟩) [.pointer (some ⟨bp, 0, none⟩)] * (objA (some ⟨bp, 0, none⟩) [.int .i64 B.blocks, .int .i64 B.most, .map (some r)] * (slmapA byteRow r B.data * R))) w8 := h8.eq (by ac_rfl)
  refine ⟨some ⟨bp, 0, none⟩, (objA_cells h8b).1 0, ?_⟩
  rw [onP_some, add_mk]
  refine ⟨some r, (objA_cells h8b.right).1 2, ?_⟩
  rw [onM_some]
  obtain ⟨es, hcl, hes, hlk⟩ := slmapA_get h8b.right.right
  refine ⟨es, hcl, ?_⟩
  -- how many are new
  refine loop_i (fun (x : Int × Int) w' => ∃ i : Nat, x = (((B.data.length + newOnes B.data (l.take i) : Nat) : Int), (i : Int)) ∧ i ≤ l.length ∧ Keep w8 w') (fun x _ => l.length - x.2.toNat) ⟨0, by simp [newOnes, hes], by omega, Keep.refl w8⟩ ?_
  rintro x w1 ⟨i, rfl, hi, kw⟩
  have hw := kw.sat h8b
  refine bsplit_decide.2 ⟨fun hlt => ?_, fun hge => ?_⟩
  · have hlt' : i < l.length := by simp at hlt; omega
    obtain ⟨ad, d, ha, hc1, hc2', _⟩ := (hs _ hw.right.right.right).2 i hlt'
    refine ⟨by omega, by omega, onP_i ha ⟨(l[i].lba, d), ⟨hc1, hc2'⟩, box2 hw fun w2 k2 hw2 => ?_⟩⟩
    rw [withW_iff]
    have hw3 := hw2.drew
    refine ⟨some ⟨bp, 0, none⟩, (objA_cells hw3.right).1 0, ?_⟩
    rw [onP_some, add_mk]
    refine ⟨some r, (objA_cells hw3.right.right).1 2, l[i].lba, (objA_cells hw3).1 0, rfl, ?_⟩
    rw [onM_some]
    obtain ⟨es3, hcl3, _, hlk3⟩ := slmapA_get hw3.right.right.right
    have hno := newOnes_le B.data (l.take i)
    have hti : (l.take i).length ≤ i := by simp; omega
    have e1 : IntKind.i64.wrap ((i : Int) + 1) = ((i + 1 : Nat) : Int) := by rw [wrap_of (by omega) (by omega)]; omega
    rcases hlk3 l[i].lba with ⟨q1, q2⟩ | ⟨s', b', q1, q2, _⟩
    · refine ⟨es3, hcl3, ⟨none, 0, 0⟩, by rw [q2]; rfl, ?_⟩
      rw [q2]
      refine ⟨⟨i + 1, ?_, by omega, kw.trans (k2.trans (Keep.drew _))⟩, by simp only [e1]; omega⟩
      rw [newOnes_take hlt', q1, e1, wrap_of (by omega) (by omega)]
      simp only [Option.isNone_none, ↓reduceIte, Prod.mk.injEq, and_true]; omega
    · refine ⟨es3, hcl3, s', by rw [q2]; rfl, ?_⟩
      rw [q2]
      refine ⟨⟨i + 1, ?_, by omega, kw.trans (k2.trans (Keep.drew _))⟩, by simp only [e1]; omega⟩
      rw [newOnes_take hlt', q1, e1]
      simp
  obtain rfl : i = l.length := by simp at hge; omega
  rw [List.take_length]
  refine ⟨some ⟨bp, 0, none⟩, (objA_cells hw).1 0, ?_⟩
  rw [onP_some, add_mk]
  refine ⟨B.most, (objA_cells hw.right).1 1, bsplit_decide.2 ⟨fun hm => ?_, fun hm => ?_⟩⟩
  · have : B.write l = (B, 7) := by unfold Buf.write; rw [if_neg hne, if_neg (by simp [hc]), if_neg (by simp [hc2]), if_neg (by simp [hc3]), if_pos hm]
    rw [this] at hk; exact hk _ (bufA_close hw.right)
  have hwr : B.write l = ({ B with data := putsIn B.data l }, 0) := by unfold Buf.write; rw [if_neg hne, if_neg (by simp [hc]), if_neg (by simp [hc2]), if_neg (by simp [hc3]), if_neg hm]
  rw [hwr] at hk
  -- they are put
  refine loop_i (fun (x : Int) w' => ∃ i : Nat, x = i ∧ i ≤ l.length ∧ Sat (objA (some ⟨bx, 0, none⟩) [.pointer (some ⟨bp, 0, none⟩)] * (objA (some ⟨bp, 0, none⟩) [.int .i64 B.blocks, .int .i64 B.most, .map (some r)] * (slmapA byteRow r (putsIn B.data (l.take i)) * R))) w') (fun x _ => l.length - x.toNat) ⟨0, rfl, by omega, hw⟩ ?_
  rintro x w2 ⟨i, rfl, hi, hw2⟩
  refine bsplit_decide.2 ⟨fun hlt => ?_, fun hge => ?_⟩
  · have hlt' : i < l.length := by omega
    obtain ⟨ad, d, ha, hc1, hc2', hd⟩ := (hs _ hw2.right.right.right).2 i hlt'
    refine ⟨by omega, by omega, onP_i ha ⟨(l[i].lba, d), ⟨hc1, hc2'⟩, box2 hw2 fun w3 k3 hw3 => ?_⟩⟩
    rw [withW_iff]
    have hw4 := hw3.drew
    refine ⟨fun w' => Sat (objA (some ⟨w2.heap.size, 0, none⟩) [.int .i64 l[i].lba, .slice d.a d.n d.c] * (objA (some ⟨bx, 0, none⟩) [.pointer (some ⟨bp, 0, none⟩)] * (objA (some ⟨bp, 0, none⟩) [.int .i64 B.blocks, .int .i64 B.most, .map (some r)] * (slmapA byteRow r (putsIn B.data (l.take i)) * R)))) w', hw4, ?_⟩
    refine ⟨some ⟨bp, 0, none⟩, fun w' hw' => (objA_cells hw'.right).1 0, ?_⟩
    rw [onP_some, add_mk]
    refine ⟨some r, fun w' hw' => (objA_cells hw'.right.right).1 2, l[i].lba, fun w' hw' => (objA_cells hw').1 0, d, fun w' hw' => (objA_cells hw').1 1, ?_⟩
    have hlen : l[i].data.length = 40 := by
      have := List.any_eq_false.1 hc2 _ (List.getElem_mem hlt')
      simpa [badLen] using this
    refine clone_bytes hw4 (bytesOn_le (keep_le (k3.trans (Keep.drew _))) hd) (by omega) fun s' w5 hs' hw5 => ⟨hw5.right, rfl, ?_⟩
    rw [onM_some]
    have hw6 : Sat (slmapA byteRow r (putsIn B.data (l.take i)) * (byteRow s' l[i].data * (objA (some ⟨bx, 0, none⟩) [.pointer (some ⟨bp, 0, none⟩)] * (objA (some ⟨bp, 0, none⟩) [.int .i64 B.blocks, .int .i64 B.most, .map (some r)] * R)))) w5 :=
      (hw5.eq (by ac_rfl : _ = objA (some ⟨w2.heap.size, 0, none⟩) [.int .i64 l[i].lba, .slice d.a d.n d.c] * (slmapA byteRow r (putsIn B.data (l.take i)) * (ownS 1 s' (bytesV l[i].data) * (objA (some ⟨bx, 0, none⟩) [.pointer (some ⟨bp, 0, none⟩)] * (objA (some ⟨bp, 0, none⟩) [.int .i64 B.blocks, .int .i64 B.most, .map (some r)] * R)))))).right
    obtain ⟨es5, cl5, hm5, hw7⟩ := slmapA_put l[i].lba hw6
    refine ⟨es5, cl5, hm5, gen_w hw7 fun w7 hw7 => ?_⟩
    have e1 : IntKind.i64.wrap ((i : Int) + 1) = ((i + 1 : Nat) : Int) := by rw [wrap_of (by omega) (by omega)]; omega
    refine ⟨⟨i + 1, e1, by omega, ?_⟩, by simp only [e1]; omega⟩
    rw [putsIn_take hlt']
    exact hw7.eq (by ac_rfl)
  · obtain rfl : i = l.length := by omega
    rw [List.take_length] at hw2
    exact hk _ (bufA_close hw2.right)
end Go.Proofs.YtbolgpjcmchfoaaGreat
/- Contracts of the book of times. -/
namespace Go.Proofs.YtbolgpjcmchfoaaGreat
open Go Go.Vc Go.Sl Go.Mo
def BookOk (B : Book) : Prop := (∀ p ∈ B.times, i64ok p.1) ∧ B.times.length ≤ 2 ^ 40
theorem book_ptr {p : Option Addr} {B : Book} {R : HP} {w : World} (h : Sat (bookA p B * R) w) : ∃ b, p = some ⟨b, 0, none⟩ := by
  obtain ⟨r, h1⟩ := bookA_open h
  obtain ⟨b, t, rfl, _⟩ := objA_open h1
  exact ⟨b, rfl⟩
theorem keys_intv (l : List (Int × Int)) : (on2 intv l).map Prod.fst = l.map Prod.fst := by simp [on2, Function.comp_def]
theorem book_list {p : Option Addr} {B : Book} {R : HP} {w : World} {K : SV → World → Prop} (h : Sat (bookA p B * R) w) (ok : BookOk B)
    (hk : ∀ s w', s.n = B.times.length → Keep w w' → (∀ R, Sat R w → Sat (ownS 1 s ((sortI (B.times.map Prod.fst)).map (Value.int .i64)) * R) w') → K s w') : c_horizon_Book_List p w K := by
  obtain ⟨b, rfl⟩ := book_ptr h
  obtain ⟨r, h1⟩ := bookA_open h
  refine horizon_Book_List_go ?_
  unfold f_horizon_Book_List
  simp only [Option.isNone_some, bsplit, onP_some, add_mk]
  refine ⟨some r, (objA_cells h1).1 2, sorted_T r _ _ w _ (h1.eq (by ac_rfl : _ = mapA r (on2 intv B.times) * (objA (some ⟨b, 0, none⟩) [.int .i64 B.most, .int .i64 B.last, .map (some r)] * R))) (fun p hp => ?_) (by rw [length_on2]; exact ok.2) fun s w' hn kw hs => ?_⟩
  · obtain ⟨q, hq, rfl⟩ := List.mem_map.1 hp
    exact ok.1 q hq
  · rw [keys_intv] at hs
    exact hk _ _ (by rw [hn, length_on2]) kw hs
theorem book_count {p : Option Addr} {B : Book} {R : HP} {w : World} {K : Int → World → Prop} (h : Sat (bookA p B * R) w) (ok : BookOk B) (hk : ∀ w', Keep w w' → K (B.times.length : Nat) w') : c_horizon_Book_Count p w K := by
  refine horizon_Book_Count_go (book_list h ok fun s w' hn kw _ => ?_)
  rw [hn]; exact hk w' kw
theorem book_room {p : Option Addr} {B : Book} {R : HP} {w : World} {K : Int → World → Prop} (h : Sat (bookA p B * R) w) (hk : K B.most w) : c_horizon_Book_room p w K := by
  obtain ⟨b, rfl⟩ := book_ptr h
  obtain ⟨r, h1⟩ := bookA_open h
  exact room_some ((objA_cells h1).1 0) hk
theorem book_open {p : Option Addr} {B : Book} {at_ : Int} {R : HP} {w : World} {K : Int × Int → World → Prop} (h : Sat (bookA p B * R) w) (ok : BookOk B) (hl : 0 ≤ B.last ∧ B.last ≤ 2 ^ 40)
    (hk : ∀ w', Sat (bookA p (B.open at_).1 * R) w' → K (B.open at_).2 w') : c_horizon_Book_Open p at_ w K := by
  refine horizon_Book_Open_go (bsplit_decide.2 ⟨fun h0 => ?_, fun h0 => bsplit_decide.2 ⟨fun h1 => ?_, fun h1 => ?_⟩⟩)
  · have : B.open at_ = (B, (0, 1)) := by unfold Book.open; rw [if_pos (.inl h0)]
    rw [this] at hk; exact hk w h
  · have : B.open at_ = (B, (0, 1)) := by unfold Book.open; rw [if_pos (.inr h1)]
    rw [this] at hk; exact hk w h
  have hn : ¬ (at_ < 0 ∨ 1099511627776 < at_) := by omega
  refine book_count h ok fun w4 k4 => ?_
  refine book_room (k4.sat h) ?_
  refine bsplit_decide.2 ⟨fun h2 => ?_, fun h2 => ?_⟩
  · have : B.open at_ = (B, (0, 6)) := by unfold Book.open; rw [if_neg hn, if_pos h2]
    rw [this] at hk; exact hk _ (k4.sat h)
  have ho : B.open at_ = ({ B with last := B.last + 1, times := put B.times (B.last + 1) at_ }, (B.last + 1, 0)) := by unfold Book.open; rw [if_neg hn, if_neg h2]
  rw [ho] at hk
  obtain ⟨b, rfl⟩ := book_ptr h
  obtain ⟨r, h3⟩ := bookA_open (k4.sat h)
  simp only [onP_some, add_mk, Nat.zero_add]
  refine ⟨B.last, (objA_cells h3).1 1, objA_storeT (i := 1) h3 (by simp) fun w5 h5 => ?_⟩
  rw [wrap_of (by omega) (by omega)] at h5
  simp only [List.set_cons_succ, List.set_cons_zero] at h5
  rw [withW_iff]
  have h6 := h5.drew
  refine ⟨fun w' => w' = w5.drew, rfl, some r, fun w' e => ?_, B.last + 1, fun w' e => ?_, trivial, ?_⟩
  · subst e; exact (objA_cells h6).1 2
  · subst e; exact (objA_cells h6).1 1
  rw [onM_some]
  obtain ⟨es, cl, hm, _, h7⟩ := mapA_put (h6.eq (by ac_rfl : _ = mapA r (on2 intv B.times) * (objA (some ⟨b, 0, none⟩) [.int .i64 B.most, .int .i64 (B.last + 1), .map (some r)] * R))) (B.last + 1) (intv at_)
  refine ⟨es, cl, hm, gen_w h7 fun w7 h7 => ?_⟩
  rw [put_on2] at h7
  have h8 : Sat (objA (some ⟨b, 0, none⟩) [.int .i64 B.most, .int .i64 (B.last + 1), .map (some r)] * (mapA r (on2 intv (put B.times (B.last + 1) at_)) * R)) w7 := h7.eq (by ac_rfl)
  exact ⟨B.last + 1, (objA_cells h8).1 1, hk _ (bookA_close (B := { B with last := B.last + 1, times := put B.times (B.last + 1) at_ }) h8)⟩
theorem book_at {p : Option Addr} {B : Book} {i : Int} {R : HP} {w : World} {K : Int × Int → World → Prop} (h : Sat (bookA p B * R) w) (hk : K (match lkp B.times i with | none => (0, 14) | some t => (t, 0)) w) : c_horizon_Book_At p i w K := by
  obtain ⟨b, rfl⟩ := book_ptr h
  obtain ⟨r, h1⟩ := bookA_open h
  refine horizon_Book_At_go ?_
  unfold f_horizon_Book_At
  simp only [Option.isNone_some, bsplit, onP_some, add_mk]
  refine ⟨some r, (objA_cells h1).1 2, trivial, ?_⟩
  rw [onM_some]
  obtain ⟨es, hcl, hf, _⟩ := mapA_get h1.right
  refine ⟨es, hcl, (lkp B.times i).getD 0, ?_, ?_⟩
  · rw [hf, lkp_on2]; cases lkp B.times i <;> rfl
  · rw [hf, lkp_on2]
    cases e : lkp B.times i with
    | none => rw [e] at hk; exact hk
    | some t => rw [e] at hk; exact hk
theorem book_close {p : Option Addr} {B : Book} {i : Int} {R : HP} {w : World} {K : Int → World → Prop} (h : Sat (bookA p B * R) w) (hk : ∀ w', Sat (bookA p (B.close i).1 * R) w' → K (B.close i).2 w') : c_horizon_Book_Close p i w K := by
  refine horizon_Book_Close_go (book_at h ?_)
  obtain ⟨b, rfl⟩ := book_ptr h
  obtain ⟨r, h1⟩ := bookA_open h
  cases e : lkp B.times i with
  | none =>
    have : B.close i = (B, 14) := by unfold Book.close; rw [e]
    rw [this] at hk
    exact hk w h
  | some t =>
    have : B.close i = ({ B with times := del B.times i }, 0) := by unfold Book.close; rw [e]
    rw [this] at hk
    simp only [decide_true, Bool.not_true, bsplit, onP_some, add_mk]
    refine ⟨some r, (objA_cells h1).1 2, trivial, ?_⟩
    rw [onM_some]
    obtain ⟨es, cl, hm, h7⟩ := mapA_del (h1.eq (by ac_rfl : _ = mapA r (on2 intv B.times) * (objA (some ⟨b, 0, none⟩) [.int .i64 B.most, .int .i64 B.last, .map (some r)] * R))) i
    refine ⟨es, cl, hm, gen_w h7 fun w7 h7 => ?_⟩
    rw [del_on2] at h7
    exact hk _ (bookA_close (B := { B with times := del B.times i }) (h7.eq (by ac_rfl)))
end Go.Proofs.YtbolgpjcmchfoaaGreat
/- Contracts of the write buffer: what it tells. -/
namespace Go.Proofs.YtbolgpjcmchfoaaGreat
open Go Go.Vc Go.Sl Go.Mo
theorem Sat.frame {A R : HP} {w w' : World} (h : Sat (A * whole w) w') (h0 : Sat R w) : Sat (A * R) w' := by
  obtain ⟨g, hg, h1, h2, hd, hu, ha, hw⟩ := h
  obtain ⟨g0, hg0, hr⟩ := h0
  have hle : ∀ b o, g0 b = some o → h2 b = some o := fun b o hb => by rw [hw b]; exact hg0 b o hb
  refine ⟨fun b => (h1 b).or (g0 b), fun b o hb => ?_, h1, g0, fun b => ?_, fun _ => rfl, ha, hr⟩
  · refine hg b o ?_
    rw [hu b]
    cases e : h1 b with
    | some x => simp only [e, Option.some_or] at hb ⊢; exact hb
    | none => simp only [e, Option.none_or] at hb ⊢; exact hle b o hb
  · rcases hd b with e | e
    · exact .inl e
    · refine .inr ?_
      cases e' : g0 b with
      | none => rfl
      | some o => rw [hle b o e'] at e; cases e
def BufOk (B : Buf) : Prop := (∀ p ∈ B.data, i64ok p.1 ∧ p.2.length ≤ 2 ^ 40) ∧ B.data.length ≤ 2 ^ 30
theorem buf_ptr {p : Option Addr} {B : Buf} {R : HP} {w : World} (h : Sat (bufA p B * R) w) : ∃ b, p = some ⟨b, 0, none⟩ := by
  obtain ⟨r, h1⟩ := bufA_open h
  obtain ⟨b, t, rfl, _⟩ := objA_open h1
  exact ⟨b, rfl⟩
theorem slmapA_map {β : Type} {A : SV → β → HP} {r : Nat} {l : List (Int × β)} {R : HP} {w : World} (h : Sat (slmapA A r l * R) w) : ∃ m, Sat (mapA r m * 1) w ∧ m.map Prod.fst = l.map Prod.fst := by
  obtain ⟨xs, rfl, h1⟩ := slmapA_open h
  exact ⟨_, h1.left.eq (mul_one' _).symm, by rw [keys_on2, keys_on2]⟩
theorem lkp_key {α : Type} {l : List (Int × α)} {k : Int} (h : k ∈ l.map Prod.fst) : ∃ v, lkp l k = some v := by
  cases e : lkp l k with
  | some v => exact ⟨v, rfl⟩
  | none => exact absurd h (lkp_none.1 e)
theorem buf_puts {p : Option Addr} {B : Buf} {R : HP} {w : World} {K : SV → World → Prop} (h : Sat (bufA p B * R) w) (ok : BufOk B) (hk : ∀ s w', Sat (putsA s B.puts * whole w) w' → K s w') : c_wbuf_Buf_Puts p w K := by
  obtain ⟨b, rfl⟩ := buf_ptr h
  obtain ⟨r, h1⟩ := bufA_open h
  refine wbuf_Buf_Puts_go ?_
  refine bsplit_iff.2 ⟨fun e => (by cases e), fun _ => ?_⟩
  rw [onP_some, add_mk]
  refine ⟨some r, (objA_cells h1).1 2, ?_⟩
  obtain ⟨m, hm, hkeys⟩ := slmapA_map h1.right
  have hlen : m.length = B.data.length := by have := congrArg List.length hkeys; simpa using this
  refine sorted_B r m 1 w _ hm (fun q hq => ?_) (by rw [hlen]; have := ok.2; omega) fun s w6 hn k6 hs => ?_
  · have : q.1 ∈ B.data.map Prod.fst := hkeys ▸ List.mem_map_of_mem (f := Prod.fst) hq
    obtain ⟨x, hx, e⟩ := List.mem_map.1 this
    exact e ▸ (ok.1 x hx).1
  rw [hkeys] at hs
  have h6 := hs _ (sat_whole w)
  have hsn : s.n = B.data.length := by rw [hn, hlen]
  have hpl : B.puts.length = B.data.length := by simp [Buf.puts, sortI_length]
  have hb := ok.2
  have hkl : (sortI (B.data.map Prod.fst)).length = B.data.length := by simp [sortI_length]
  have hmem : ∀ k ∈ sortI (B.data.map Prod.fst), k ∈ B.data.map Prod.fst := fun k hk => (sortI_perm _).mem_iff.1 hk
  have hput : B.puts = (sortI (B.data.map Prod.fst)).map fun k => ⟨k, (lkp B.data k).getD []⟩ := rfl
  generalize sortI (B.data.map Prod.fst) = ks at *
  generalize B.puts = ps at *
  refine loop_i (fun (x : SV × Int) w' => ∃ i : Nat, x.2 = i ∧ i ≤ ps.length ∧ Sat (putsA x.1 (ps.take i) * (ownS 1 s (ks.map (Value.int .i64)) * whole w)) w') (fun x _ => ps.length - x.2.toNat) ⟨0, rfl, by omega, pairsA_nil h6 rfl rfl⟩ ?_
  rintro ⟨out, x⟩ w8 ⟨i, hx, hi, hw⟩
  simp only at hx; subst hx
  refine bsplit_decide.2 ⟨fun hlt => ?_, fun hge => ?_⟩
  · have hlt' : i < B.data.length := by simp at hlt; omega
    have hki : i < ks.length := by omega
    have hkm : i < (ks.map (Value.int .i64)).length := by simpa using hki
    have hwo : Sat (ownS 1 s (ks.map (Value.int .i64)) * (putsA out (ps.take i) * whole w)) w8 := hw.eq (by ac_rfl)
    obtain ⟨bk, hbk, hck⟩ := ownS_cell hwo hkm
    have kw : Keep w w8 := Keep.whole hw.right.right
    have h8 := kw.sat h1
    have hck' : w8.cell? ⟨bk, i, none⟩ = some (.int .i64 ks[i]) := by rw [hck i hkm]; simp
    obtain ⟨v, hv⟩ := lkp_key (hmem _ (List.getElem_mem hki))
    have htake : ps.take (i + 1) = ps.take i ++ [⟨ks[i], v⟩] := by
      rw [List.take_succ_eq_append_getElem (by omega)]
      subst hput
      simp [hv]
    refine ⟨by omega, hlt, onP_i hbk ⟨ks[i], by simpa using hck', ?_⟩⟩
    rw [onP_some, add_mk]
    refine ⟨some r, (objA_cells h8).1 2, rfl, ?_⟩
    rw [onM_some]
    obtain ⟨es, hcl, _, hlk⟩ := slmapA_get h8.right
    rcases hlk ks[i] with ⟨q1, _⟩ | ⟨d, v', q1, q2, q3⟩
    · rw [q1] at hv; cases hv
    obtain rfl : v' = v := by rw [q1] at hv; cases hv; rfl
    have hvl : v'.length ≤ 2 ^ 40 := (ok.1 _ (lkp_mem q1)).2
    refine ⟨es, hcl, d, by rw [q2]; rfl, ?_⟩
    refine clone_bytes hw (byteRow_on q3) hvl fun s' w9 hs' hw9 => ?_
    rw [withW_iff]
    have hwa := hw9.alloc (.cells #[.int .i64 ks[i], .slice s'.a s'.n s'.c] 33)
    have hc0 := hwa.cell 0
    have hc1 := hwa.cell 1
    have hwb := hwa.right
    generalize w9.heap.size = bn at hc0 hc1 ⊢
    have hpi : i < ps.length := by omega
    refine pairsA_push (x := (⟨ks[i], v'⟩ : Put)) (d := s') (num := Put.lba) (A := fun s x => byteRow s x.data) (l := ps.take i) (R := ownS 1 s (ks.map (Value.int .i64)) * whole w) (hwb.eq ?_) ⟨hc0, hc1⟩ (by simp; omega) (by omega) rfl fun s2 w10 hw10 => ?_
    · show byteRow s' v' * (putsA out (ps.take i) * (ownS 1 s (ks.map (Value.int .i64)) * whole w)) = putsA out (ps.take i) * (byteRow s' v' * (ownS 1 s (ks.map (Value.int .i64)) * whole w))
      ac_rfl
    · have e1 : IntKind.i64.wrap ((i : Int) + 1) = ((i + 1 : Nat) : Int) := by rw [wrap_of (by omega) (by omega)]; omega
      refine ⟨⟨i + 1, e1, by omega, ?_⟩, by simp only [e1]; omega⟩
      rw [htake]
      exact hw10
  · obtain rfl : i = ps.length := by simp at hge; omega
    rw [List.take_length] at hw
    have : Sat (ownS 1 s (ks.map (Value.int .i64)) * (putsA out ps * whole w)) w8 := hw.eq (by ac_rfl)
    exact hk _ _ this.right
theorem buf_len {p : Option Addr} {B : Buf} {R : HP} {w : World} {K : Int → World → Prop} (h : Sat (bufA p B * R) w) (ok : BufOk B) (hk : ∀ w', Keep w w' → K (B.data.length : Nat) w') : c_wbuf_Buf_Len p w K := by
  refine wbuf_Buf_Len_go (buf_puts h ok fun s w' hw => ?_)
  have : s.n = B.data.length := by rw [pairsA_n hw]; simp [Buf.puts, sortI_length]
  rw [this]
  exact hk _ (Keep.whole hw.right)
end Go.Proofs.YtbolgpjcmchfoaaGreat
/- Contracts of the sets of extents. -/
namespace Go.Proofs.YtbolgpjcmchfoaaGreat
open Go Go.Vc Go.Sl Go.Mo
/-- An extent as it stands in a set: no sum of its numbers wraps. -/
def okE (e : Ext) : Prop := 0 ≤ e.first ∧ 1 ≤ e.len ∧ e.first + e.len ≤ 1048577
theorem okE_may {e : Ext} (h : may e = true) : okE e := by
  simp [may] at h; unfold okE; omega
theorem meet_c' {a b : Ext} {w : World} {K : Bool → World → Prop} (ha : okE a) (hb : okE b) (hk : ∀ w', Keep w w' → K (meet a b) w') : c_ival_meet a.first a.len b.first b.len w K := by
  have hk' := hk _ ((Keep.alloc w (.cells #[.int .i64 a.first, .int .i64 a.len] 56)).trans (Keep.alloc _ (.cells #[.int .i64 b.first, .int .i64 b.len] 56)))
  refine ival_meet_go ?_
  unfold okE at ha hb
  simp [f_ival_meet, withW_iff, World.cell?_alloc_lt, bsplit_decide]
  rw [wrap_of (by omega) (by omega), wrap_of (by omega) (by omega)]
  refine ⟨fun h1 => ?_, fun h1 => ?_⟩
  · simpa [meet, h1] using hk'
  · have : meet a b = false := by simp [meet]; omega
    simpa [this] using hk'
abbrev extB (s : SV) (call : Int → Int → World → (Bool → World → Prop) → Prop) (x : Int) (w : World) (K : Bool → World → Prop) : Prop :=
  0 ≤ x ∧ x < ((s.n : Nat) : Int) ∧ onP s.a fun p => ∃ g : Int × Int, (w.cell? (p.add (x.toNat * 2)) = some (.int .i64 g.1) ∧ w.cell? ((p.add (x.toNat * 2)).add 1) = some (.int .i64 g.2)) ∧ call g.1 g.2 w K
theorem find_exts {s : SV} {l : List Ext} {w : World} {p : Ext → Bool} {call : Int → Int → World → (Bool → World → Prop) → Prop} {post : Int → World → Prop} (hl : extsOn (hp w) s l) (hn : l.length ≤ 2 ^ 60)
    (hcall : ∀ (x : Ext) (_ : x ∈ l) (w' : World) (K : Bool → World → Prop), Keep w w' → (∀ w'', Keep w' w'' → K (p x) w'') → call x.first x.len w' K)
    (hk : ∀ r w', Keep w w' → decide (0 ≤ r) = l.any p → post r w') :
    loopR (α := Int × Int) (0, 0) w fun x1 w2 next3 => bsplit (decide ((x1.2 : Int) < ((s.n : Nat) : Int))) (extB s call x1.2 w2 fun b w7 => bsplit b (post x1.2 w7) (next3 (x1.1, IntKind.i64.wrap (x1.2 + 1)) w7)) (post (-1) w2) := by
  have hsn := hl.1
  refine loop_i (fun (x : Int × Int) w' => ∃ i : Nat, x.2 = i ∧ i ≤ l.length ∧ Keep w w' ∧ ∀ j (h1 : j < l.length), j < i → p l[j] = false) (fun x _ => l.length - x.2.toNat) ⟨0, rfl, by omega, Keep.refl w, fun j _ h => by omega⟩ ?_
  rintro ⟨y, x⟩ w' ⟨i, hx, hi, hw, hall⟩
  simp only at hx; subst hx
  refine bsplit_decide.2 ⟨fun hlt => ?_, fun hge => ?_⟩
  · have hlt' : i < l.length := by simp at hlt; omega
    obtain ⟨ad, ha, h1, h2⟩ := (extsOn_le (keep_le hw) hl).2 i hlt'
    refine ⟨by omega, by omega, onP_i ha ⟨(l[i].first, l[i].len), ⟨h1, h2⟩, hcall l[i] (List.getElem_mem hlt') w' _ hw fun w'' hw'' => bsplit_iff.2 ⟨fun hp => ?_, fun hp => ?_⟩⟩⟩
    · refine hk _ _ (hw.trans hw'') ?_
      have : l.any p = true := List.any_eq_true.2 ⟨l[i], List.getElem_mem hlt', hp⟩
      simp [this]
    · refine ⟨⟨i + 1, by rw [wrap_of (by omega) (by omega)]; rfl, by omega, hw.trans hw'', fun j h1 hj => ?_⟩, by rw [wrap_of (by omega) (by omega)]; omega⟩
      rcases Nat.lt_succ_iff_lt_or_eq.1 hj with h' | h'
      · exact hall j h1 h'
      · subst h'; exact hp
  · refine hk _ _ hw ?_
    have : l.any p = false := by
      rw [List.any_eq_false]
      intro x hx
      obtain ⟨j, hj, rfl⟩ := List.getElem_of_mem hx
      simpa using hall j hj (by simp at hge; omega)
    rw [this]; rfl
theorem all1_c {x : Ext} {w : World} {K : Bool → World → Prop} (hk : ∀ w', Keep w w' → K (!may x) w') : c_ival_all_1 x.first x.len w K := by
  refine ival_all_1_go ?_
  simp only [f_ival_all_1, withW_iff]
  refine ⟨(x.first, x.len), ⟨by rw [World.cell?_alloc_new]; rfl, by rw [add_mk, World.cell?_alloc_new]; rfl⟩, may_c (a := x) fun w' kw => hk _ ((Keep.alloc _ _).trans kw)⟩
theorem all_c {s : SV} {l : List Ext} {w : World} {K : Bool → World → Prop} (hl : extsOn (hp w) s l) (hn : l.length ≤ 2 ^ 60) (hk : ∀ w', Keep w w' → K (l.all may) w') : c_ival_all s w K := by
  refine ival_all_go ?_
  refine slices_ContainsFunc_api_Extent_api_Extent_at_ival_all_1_go ?_
  refine slices_IndexFunc_api_Extent_api_Extent_at_ival_all_1_go ?_
  refine find_exts (p := fun x => !may x) (post := fun r w => K (!decide (0 ≤ r)) w) (call := fun a d w K => c_ival_all_1 a d w K) hl hn (fun x _ w' K _ hk => all1_c hk) fun r w' hw hr => ?_
  have : (!decide (0 ≤ r)) = l.all may := by rw [hr, List.any_eq_not_all_not]; simp
  rw [this]; exact hk w' hw
theorem meets1_c {x e : Ext} {c : Nat} {w : World} {K : Bool → World → Prop} (hx : okE x) (he : okE e) (h1 : w.cell? ⟨c, 0, none⟩ = some (.int .i64 e.first)) (h2 : w.cell? ⟨c, 1, none⟩ = some (.int .i64 e.len)) (hk : ∀ w', Keep w w' → K (meet x e) w') : c_ival_Set_Meets_1 x.first x.len (some ⟨c, 0, none⟩) w K := by
  refine ival_Set_Meets_1_go ?_
  simp only [f_ival_Set_Meets_1, withW_iff, onP_some]
  have k1 := Keep.alloc w (.cells #[.int .i64 x.first, .int .i64 x.len] 56)
  refine ⟨(x.first, x.len), ⟨by rw [World.cell?_alloc_new]; rfl, by rw [add_mk, World.cell?_alloc_new]; rfl⟩, (e.first, e.len), ⟨keep_cell k1 h1, by rw [add_mk]; exact keep_cell k1 h2⟩, meet_c' hx he fun w' kw => hk _ (k1.trans kw)⟩
theorem meetsF_c {s : SV} {l : List Ext} {e : Ext} {c : Nat} {w : World} {K : Bool → World → Prop} (hl : extsOn (hp w) s l) (hn : l.length ≤ 2 ^ 60) (hok : ∀ x ∈ l, okE x) (he : okE e) (h1 : w.cell? ⟨c, 0, none⟩ = some (.int .i64 e.first)) (h2 : w.cell? ⟨c, 1, none⟩ = some (.int .i64 e.len))
    (hk : ∀ w', Keep w w' → K (l.any fun x => meet x e) w') : c_slices_ContainsFunc_api_Extent_api_Extent_at_ival_Set_Meets_1 s (some ⟨c, 0, none⟩) w K := by
  refine slices_ContainsFunc_api_Extent_api_Extent_at_ival_Set_Meets_1_go ?_
  refine slices_IndexFunc_api_Extent_api_Extent_at_ival_Set_Meets_1_go ?_
  refine find_exts (p := fun x => meet x e) (post := fun r w => K (decide (0 ≤ r)) w) (call := fun a d w K => c_ival_Set_Meets_1 a d (some ⟨c, 0, none⟩) w K) hl hn (fun x hx w' K kw hk => meets1_c (hok x hx) he (keep_cell kw h1) (keep_cell kw h2) hk) fun r w' hw hr => ?_
  rw [hr]; exact hk w' hw
def SetOk (S : XSet) : Prop := (∀ x ∈ S.l, okE x) ∧ S.l.length ≤ 2 ^ 30
theorem set_ptr {p : Option Addr} {S : XSet} {R : HP} {w : World} (h : Sat (setA p S * R) w) : ∃ b, p = some ⟨b, 0, none⟩ := by
  obtain ⟨s, h1⟩ := setA_open h
  obtain ⟨b, t, rfl, _⟩ := objA_open h1
  exact ⟨b, rfl⟩
theorem set_meets {p : Option Addr} {S : XSet} {e : Ext} {R : HP} {w : World} {K : Bool → World → Prop} (h : Sat (setA p S * R) w) (ok : SetOk S) (hk : ∀ w', Keep w w' → K (may e && S.l.any fun x => meet x e) w') : c_ival_Set_Meets p e.first e.len w K := by
  obtain ⟨b, rfl⟩ := set_ptr h
  obtain ⟨s, h1⟩ := setA_open h
  refine ival_Set_Meets_go ?_
  unfold f_ival_Set_Meets
  rw [withW_iff]
  have k1 := Keep.alloc w (.cells #[.int .i64 e.first, .int .i64 e.len] 56)
  have hb : Sat (pt w.heap.size (.cells #[.int .i64 e.first, .int .i64 e.len] 56) * 1) (w.alloc (.cells #[.int .i64 e.first, .int .i64 e.len] 56)) := (h.one).alloc _
  generalize w.alloc (.cells #[.int .i64 e.first, .int .i64 e.len] 56) = w1 at k1 hb ⊢
  generalize w.heap.size = bx at hb ⊢
  have hc0 : w1.cell? ⟨bx, 0, none⟩ = some (.int .i64 e.first) := hb.cell 0
  have hc1 : w1.cell? ⟨bx, 1, none⟩ = some (.int .i64 e.len) := hb.cell 1
  refine bsplit_iff.2 ⟨fun e => (by cases e), fun _ => ⟨(e.first, e.len), ⟨hc0, by rw [add_mk]; exact hc1⟩, may_c (a := e) fun w4 k4 => bsplit_iff.2 ⟨fun hm => ?_, fun hm => ?_⟩⟩⟩
  · have hm' : may e = false := by simpa using hm
    simp only [hm', Bool.false_and] at hk
    exact hk _ (k1.trans k4)
  · have hm' : may e = true := by simpa using hm
    simp only [hm', Bool.true_and] at hk
    have h4 := (k1.trans k4).sat h1
    rw [onP_some, add_mk]
    refine ⟨s, (objA_cells h4).1 1, ?_⟩
    refine meetsF_c (extsA_on h4.right.left) (by have := ok.2; omega) ok.1 (okE_may hm') (keep_cell k4 hc0) (keep_cell k4 hc1) fun w' kw => hk _ ((k1.trans k4).trans kw)
theorem set_has {p : Option Addr} {S : XSet} {lba : Int} {R : HP} {w : World} {K : Bool → World → Prop} (h : Sat (setA p S * R) w) (ok : SetOk S) (hk : ∀ w', Keep w w' → K (XSet.has S lba) w') : c_ival_Set_Has p lba w K :=
  ival_Set_Has_go (set_meets (e := ⟨lba, 1⟩) h ok hk)
theorem clone_exts {s : SV} {l : List Ext} {R : HP} {w : World} {K : SV → World → Prop} (h : Sat R w) (hl : extsOn (hp w) s l) (hc : l.length ≤ 2 ^ 40) (hk : ∀ s' w', Sat (extsA s' l * R) w' → K s' w') : c_slices_Clone_api_Extent_api_Extent s w K :=
  slices_Clone_api_Extent_api_Extent_go (clone_i (vs := l.flatMap encE) h (extsOn_row hl) (by rw [encE_length, hl.1]) (encE_one l) (by rw [hl.1]; omega) (by omega) rfl (by omega) fun s' w' _ hs => hk s' w' hs)
theorem set_extents {p : Option Addr} {S : XSet} {R : HP} {w : World} {K : SV → World → Prop} (h : Sat (setA p S * R) w) (hl : S.l.length ≤ 2 ^ 40) (hk : ∀ s w', Sat (extsA s S.l * whole w) w' → K s w') : c_ival_Set_Extents p w K := by
  obtain ⟨b, rfl⟩ := set_ptr h
  obtain ⟨s, h1⟩ := setA_open h
  refine ival_Set_Extents_go (bsplit_iff.2 ⟨fun e => (by cases e), fun _ => ?_⟩)
  rw [onP_some, add_mk]
  exact ⟨s, (objA_cells h1).1 1, clone_exts (sat_whole w) (extsA_on h1.right.left) hl fun s' w' hs => hk _ _ hs⟩
theorem set_new {m : Int} {R : HP} {w : World} {K : Option Addr → World → Prop} (h : Sat R w) (hk : ∀ p w', Sat (setA p ⟨m, []⟩ * R) w' → K p w') : c_ival_New m w K := by
  refine ival_New_go ?_
  unfold f_ival_New
  rw [withW_iff]
  refine hk _ _ (setA_close (s := ⟨none, 0, 0⟩) ?_)
  have h1 : Sat (objA (some ⟨w.heap.size, 0, none⟩) [.int .i64 m, .slice none 0 0] * (extsA ⟨none, 0, 0⟩ [] * R)) (w.alloc (.cells [.int .i64 m, .slice none 0 0].toArray 207)) := objA_new (ownS_nil h rfl rfl)
  exact h1
theorem sumLen_take {l : List Ext} {i : Nat} (h : i < l.length) : sumLen (l.take (i + 1)) = sumLen (l.take i) + l[i].len := by
  unfold sumLen
  rw [List.take_succ_eq_append_getElem h, List.map_append, List.sum_append, List.map_cons, List.map_nil, List.sum_cons, List.sum_nil, Int.add_zero]
theorem sumLen_bound {l : List Ext} (ok : ∀ x ∈ l, okE x) : ∀ i, i ≤ l.length → (i : Int) ≤ sumLen (l.take i) ∧ sumLen (l.take i) ≤ i * 1048577
  | 0, _ => by simp [sumLen]
  | i + 1, h => by
    have := sumLen_bound ok i (by omega)
    rw [sumLen_take (by omega)]
    have h1 := ok l[i] (List.getElem_mem (by omega))
    unfold okE at h1
    omega
theorem set_count {p : Option Addr} {S : XSet} {R : HP} {w : World} {K : Int → World → Prop} (h : Sat (setA p S * R) w) (ok : SetOk S) (hk : ∀ w', Keep w w' → K (sumLen S.l) w') : c_ival_Set_Count p w K := by
  have hb := ok.2
  refine ival_Set_Count_go (set_extents h (by omega) fun s w2 hs => ?_)
  have hon := extsA_on hs.left
  have k0 : Keep w w2 := Keep.whole hs.right
  have hsn := hon.1
  refine loop_i (fun (x : Int × Int) w' => ∃ i : Nat, x = (sumLen (S.l.take i), (i : Int)) ∧ i ≤ S.l.length ∧ Keep w2 w') (fun x _ => S.l.length - x.2.toNat) ⟨0, rfl, by omega, Keep.refl w2⟩ ?_
  rintro x w4 ⟨i, rfl, hi, kw⟩
  refine bsplit_decide.2 ⟨fun hlt => ?_, fun hge => ?_⟩
  · have hlt' : i < S.l.length := by simp at hlt; omega
    obtain ⟨ad, ha, h1, h2⟩ := (extsOn_le (keep_le kw) hon).2 i hlt'
    refine ⟨by omega, by omega, onP_i ha ⟨(S.l[i].first, S.l[i].len), ⟨h1, h2⟩, box2 (sat_whole w4) fun w9 k9 h9 => ⟨S.l[i].len, by rw [add_mk]; exact (objA_cells h9).1 1, ?_⟩⟩⟩
    rw [withI_iff]
    have hs1 := sumLen_bound ok.1 i hi
    have hs2 := ok.1 S.l[i] (List.getElem_mem hlt')
    unfold okE at hs2
    have e1 : IntKind.i64.wrap ((i : Int) + 1) = ((i + 1 : Nat) : Int) := by rw [wrap_of (by omega) (by omega)]; omega
    refine ⟨⟨i + 1, ?_, by omega, kw.trans k9⟩, by simp only [e1]; omega⟩
    rw [sumLen_take hlt', e1, wrap_of (by omega) (by omega)]
  · obtain rfl : i = S.l.length := by simp at hge; omega
    rw [List.take_length]
    exact hk _ (k0.trans kw)
end Go.Proofs.YtbolgpjcmchfoaaGreat
/- Contracts of the sets of extents: what they take in. -/
namespace Go.Proofs.YtbolgpjcmchfoaaGreat
open Go Go.Vc Go.Sl Go.Mo
theorem exts_append {s b : SV} {l m : List Ext} {e : Nat} {R : HP} {w : World} {K : SV → World → Prop} (h : Sat (extsA s l * R) w) (hb : extsOn (hp w) b m) (hlen : l.length + m.length ≤ 2 ^ 36)
    (hk : ∀ s' w', Sat (extsA s' (l ++ m) * R) w' → K s' w') : appendR s b 2 16 [.int .i64 0, .int .i64 0] e w K := by
  have hn := extsA_n h
  refine append_own (news := m.flatMap encE) h (by rw [encE_length, hb.1]) (encE_one m) (rowOn_cells (extsOn_row hb)) (fun hno => ?_) (by rw [hn, hb.1]; omega) (by omega) rfl fun s' w' _ hw' => hk s' w' (by unfold extsA; rw [List.flatMap_append]; exact hw')
  have := (extsOn_row hb).1 hno
  have h2 := encE_length m
  rw [this] at h2
  have := hb.1
  simp at h2; omega
/-- One more extent, that lies in a block of its own. -/
theorem exts_push {s : SV} {l : List Ext} {x : Ext} {e b : Nat} {R : HP} {w : World} {K : SV → World → Prop} (h : Sat (extsA s l * R) w) (h1 : w.cell? ⟨b, 0, none⟩ = some (.int .i64 x.first)) (h2 : w.cell? ⟨b, 1, none⟩ = some (.int .i64 x.len)) (hlen : l.length + 1 ≤ 2 ^ 36)
    (hk : ∀ s' w', Sat (extsA s' (l ++ [x]) * R) w' → K s' w') : appendR s ⟨some ⟨b, 0, none⟩, 1, 1⟩ 2 16 [.int .i64 0, .int .i64 0] e w K := by
  refine exts_append (m := [x]) h ⟨rfl, fun i hi => ?_⟩ (by simpa using hlen) hk
  obtain rfl : i = 0 := by simpa using hi
  exact ⟨⟨b, 0, none⟩, rfl, h1, h2⟩
theorem grow_c {n : Nat} {R : HP} {w : World} {K : SV → World → Prop} (h : Sat R w) (hn : n ≤ 2 ^ 36) (hk : ∀ s w', Sat (extsA s [] * R) w' → K s w') : c_slices_Grow_api_Extent_api_Extent ⟨none, 0, 0⟩ (n : Int) w K := by
  refine slices_Grow_api_Extent_api_Extent_go ?_
  refine bsplit_decide.2 ⟨fun h0 => by omega, fun _ => ?_⟩
  rw [withI_iff]
  have e0 : IntKind.i64.wrap ((n : Int) - IntKind.i64.wrap (((0 : Nat) : Int) - ((0 : Nat) : Int))) = (n : Int) := by
    rw [wrap_of (x := ((0 : Nat) : Int) - ((0 : Nat) : Int)) (by omega) (by omega), wrap_of (by omega) (by omega)]; omega
  simp only [e0]
  refine bsplit_decide.2 ⟨fun h0 => ?_, fun h0 => hk _ _ (ownS_nil h rfl rfl)⟩
  refine ⟨by omega, by omega, by omega, ?_⟩
  refine ⟨by omega, by omega, by omega, by simp, by simp; omega, ?_, by omega, [], by simp, by simp [sub?], by simp, fun cap hcap => ⟨by omega, by omega, by omega, ?_⟩⟩
  · simp only [Int.toNat_natCast, Int.toNat_zero, Nat.sub_self]
    exact newCapOk_of (by omega) (by omega) (by omega)
  · have h1 := (h.alloc (.cells ([] ++ zrow [.int .i64 0, .int .i64 0] (n : Int).toNat ++ zrow [.int .i64 0, .int .i64 0] (cap - ((((0 : Nat) : Int)).toNat - (0 : Int).toNat + (n : Int).toNat))).toArray 56)).drew
    refine hk _ _ ?_
    have e1 : (sub? (some (⟨w.heap.size, 0, none⟩ : Addr)) (0 : Int).toNat cap 2) = some ⟨w.heap.size, 0, none⟩ := by
      unfold sub?
      split
      · rfl
      · simp
    show Sat (ownS 2 _ _ * R) _
    simp only [Int.toNat_natCast, Int.toNat_zero, Nat.sub_zero, Nat.sub_self, Nat.zero_add] at h1 hcap ⊢
    rw [show sub? (some (⟨w.heap.size, 0, none⟩ : Addr)) 0 cap 2 = some ⟨w.heap.size, 0, none⟩ from e1]
    refine ownS_mk (vs := []) (sp := zrow [.int .i64 0, .int .i64 0] n ++ zrow [.int .i64 0, .int .i64 0] (cap - n)) (t := 56) (by simpa using h1) (by simp) (by omega) ?_
    simp only [List.length_nil, List.length_append, zrow_length, List.length_cons]
    omega
theorem concat_c {s1 s2 : SV} {b : Nat} {l1 l2 : List Ext} {R : HP} {w : World} {K : SV → World → Prop} (h : Sat R w) (hc1 : w.cell? ⟨b, 0, none⟩ = some (slv s1)) (hc2 : w.cell? ⟨b, 1, none⟩ = some (slv s2)) (h1 : extsOn (hp w) s1 l1) (h2 : extsOn (hp w) s2 l2) (hlen : l1.length + l2.length ≤ 2 ^ 36)
    (hk : ∀ s w', Sat (extsA s (l1 ++ l2) * R) w' → K s w') : c_slices_Concat_api_Extent_api_Extent ⟨some ⟨b, 0, none⟩, 2, 2⟩ w K := by
  refine slices_Concat_api_Extent_api_Extent_go ?_
  have hn1 := h1.1
  have hn2 := h2.1
  have w01 : IntKind.i64.wrap ((0 : Int) + 1) = 1 := by rw [wrap_of (by omega) (by omega)]; rfl
  have w12 : IntKind.i64.wrap ((1 : Int) + 1) = 2 := by rw [wrap_of (by omega) (by omega)]; rfl
  have w1 : IntKind.i64.wrap 1 = 1 := wrap_of (by omega) (by omega)
  have w2 : IntKind.i64.wrap 2 = 2 := wrap_of (by omega) (by omega)
  -- the sizes
  refine loop_i (fun (x : Int × Int) w' => w' = w ∧ (x = (0, 0) ∨ x = (((l1.length : Nat) : Int), 1) ∨ x = (((l1.length + l2.length : Nat) : Int), 2))) (fun x _ => 2 - x.2.toNat) ⟨rfl, .inl rfl⟩ ?_
  rintro x w' ⟨rfl, rfl | rfl | rfl⟩
  · refine bsplit_decide.2 ⟨fun _ => ⟨by omega, by simp, ?_⟩, fun hge => by simp at hge⟩
    rw [onP_some]
    refine ⟨s1, hc1, ?_⟩
    rw [withI_iff, hn1, wrap_of (by omega) (by omega)]
    refine bsplit_decide.2 ⟨fun h0 => by omega, fun _ => ⟨⟨rfl, .inr (.inl (by simp [w1]))⟩, by simp [w1]⟩⟩
  · refine bsplit_decide.2 ⟨fun _ => ⟨by omega, by simp, ?_⟩, fun hge => by simp at hge⟩
    rw [onP_some]
    refine ⟨s2, hc2, ?_⟩
    rw [withI_iff, hn2, wrap_of (by omega) (by omega)]
    refine bsplit_decide.2 ⟨fun h0 => by omega, fun _ => ⟨⟨rfl, .inr (.inr (by simp [w2]))⟩, by simp [w2]⟩⟩
  refine bsplit_decide.2 ⟨fun hlt => by simp at hlt, fun _ => ?_⟩
  refine grow_c (sat_whole w') (by omega) fun s w8 h8 => ?_
  -- the rows
  refine loop_i (fun (x : SV × Int) v1 => (x.2 = 0 ∧ Sat (extsA x.1 [] * whole w') v1) ∨ (x.2 = 1 ∧ Sat (extsA x.1 l1 * whole w') v1) ∨ (x.2 = 2 ∧ Sat (extsA x.1 (l1 ++ l2) * whole w') v1)) (fun x _ => 2 - x.2.toNat) (.inl ⟨rfl, h8⟩) ?_
  rintro ⟨o, x⟩ v1 hx
  rcases hx with ⟨hx, hw⟩ | ⟨hx, hw⟩ | ⟨hx, hw⟩
  · simp only at hx; subst hx
    have kw : Keep w' v1 := Keep.whole hw.right
    refine bsplit_decide.2 ⟨fun _ => ⟨by omega, by simp, ?_⟩, fun hge => by simp at hge⟩
    rw [onP_some]
    refine ⟨s1, keep_cell kw hc1, exts_append hw (extsOn_le (keep_le kw) h1) (by simp; omega) fun s' v2 h2' => ⟨.inr (.inl ⟨w01, by simpa using h2'⟩), by simp [w1]⟩⟩
  · simp only at hx; subst hx
    have kw : Keep w' v1 := Keep.whole hw.right
    refine bsplit_decide.2 ⟨fun _ => ⟨by omega, by simp, ?_⟩, fun hge => by simp at hge⟩
    rw [onP_some]
    refine ⟨s2, keep_cell kw (hc2), exts_append hw (extsOn_le (keep_le kw) h2) (by omega) fun s' v2 h2' => ⟨.inr (.inr ⟨w12, h2'⟩), by simp [w2]⟩⟩
  · simp only at hx; subst hx
    refine bsplit_decide.2 ⟨fun hlt => by simp at hlt, fun _ => ?_⟩
    exact hk _ _ (Sat.frame hw h)
theorem joinE_ok {acc : List Ext} {e : Ext} (ha : ∀ x ∈ acc, okE x) (he : okE e) : ∀ x ∈ joinE acc e, okE x := by
  intro y hy
  cases acc with
  | nil => simp only [joinE, List.mem_singleton] at hy; subst hy; exact he
  | cons x r =>
    have hx := ha x (by simp)
    simp only [joinE] at hy
    unfold okE at hx he
    split at hy
    · rcases List.mem_cons.1 hy with h | h
      · subst h; unfold okE; simp only; omega
      · exact ha y (by simp [h])
    · rcases List.mem_cons.1 hy with h | h
      · subst h; exact he
      · exact ha y h
theorem foldl_joinE_ok {l acc : List Ext} (ha : ∀ x ∈ acc, okE x) (hl : ∀ x ∈ l, okE x) : ∀ x ∈ l.foldl joinE acc, okE x := by
  induction l generalizing acc with
  | nil => exact ha
  | cons e r ih => exact ih (joinE_ok ha (hl e (by simp))) fun x hx => hl x (by simp [hx])
theorem joinE_length (acc : List Ext) (e : Ext) : (joinE acc e).length ≤ acc.length + 1 := by
  cases acc with
  | nil => simp [joinE]
  | cons x r => simp only [joinE]; split <;> simp
theorem foldl_joinE_length (l acc : List Ext) : (l.foldl joinE acc).length ≤ acc.length + l.length := by
  induction l generalizing acc with
  | nil => simp
  | cons e r ih =>
    have := joinE_length acc e
    have := ih (joinE acc e)
    simp only [List.foldl_cons, List.length_cons]; omega
theorem joinM_ok {l : List Ext} (hl : ∀ x ∈ l, okE x) : ∀ x ∈ joinM l, okE x := by
  intro x hx
  unfold joinM at hx
  rw [List.mem_reverse] at hx
  exact foldl_joinE_ok (by simp) (fun y hy => hl y ((sortE_spec l).1.mem_iff.1 hy)) x hx
theorem joinM_length (l : List Ext) : (joinM l).length ≤ l.length := by
  unfold joinM
  have := foldl_joinE_length (sortE l) []
  rw [sortE_length] at this
  simpa using this
theorem joined_c {s : SV} {l : List Ext} {R : HP} {w : World} {K : SV → World → Prop} (h : Sat R w) (hl : extsOn (hp w) s l) (hn : l.length ≤ 2 ^ 30) (hok : ∀ x ∈ l, okE x) (hk : ∀ s' w', Sat (extsA s' (joinM l) * R) w' → K s' w') : c_ival_joined s w K := by
  refine ival_joined_go (clone_exts (sat_whole w) hl (by omega) fun s1 w2 h2 => sort_c h2 (by omega) fun w4 h4 => ?_)
  have hs1 := extsA_n h4
  have hsl := sortE_length l
  have hso : ∀ x ∈ sortE l, okE x := fun x hx => hok x ((sortE_spec l).1.mem_iff.1 hx)
  have hjm : joinM l = ((sortE l).foldl joinE []).reverse := rfl
  generalize sortE l = so at *
  refine loop_i (fun (x : SV × Int) w' => ∃ i : Nat, x.2 = i ∧ i ≤ so.length ∧ Sat (extsA x.1 ((so.take i).foldl joinE []).reverse * (extsA s1 so * whole w)) w') (fun x _ => so.length - x.2.toNat) ⟨0, rfl, by omega, ownS_nil h4 rfl rfl⟩ ?_
  rintro ⟨out, x⟩ w6 ⟨i, hx, hi, hw⟩
  simp only at hx; subst hx
  simp only at hw
  refine bsplit_decide.2 ⟨fun hlt => ?_, fun hge => ?_⟩
  · have hlt' : i < so.length := by simp at hlt; omega
    obtain ⟨ad, ha, hc1, hc2⟩ := (extsA_on hw.right.left).2 i hlt'
    refine ⟨by omega, by omega, onP_i ha ⟨(so[i].first, so[i].len), ⟨hc1, hc2⟩, box2 hw fun w11 k11 hw11 => ?_⟩⟩
    rw [withI_iff, withW_iff]
    have hwd := hw11.drew
    obtain ⟨acc, hacc⟩ : ∃ acc, (so.take i).foldl joinE [] = acc := ⟨_, rfl⟩
    have haok : ∀ x ∈ acc, okE x := hacc ▸ foldl_joinE_ok (by simp) fun x hx => hso x (List.mem_of_mem_take hx)
    have halen : acc.length ≤ i := by
      rw [← hacc]
      have := foldl_joinE_length (so.take i) []
      simp at this; omega
    have hnext : (so.take (i + 1)).foldl joinE [] = joinE acc so[i] := by
      rw [List.take_succ_eq_append_getElem hlt', List.foldl_append, hacc]; rfl
    rw [hacc] at hwd
    have hon : out.n = acc.length := by
      have := extsA_n hwd.right
      simpa using this
    have heo : okE so[i] := hso _ (List.getElem_mem hlt')
    generalize so[i] = e at *
    have e1 : IntKind.i64.wrap ((i : Int) + 1) = ((i + 1 : Nat) : Int) := by rw [wrap_of (by omega) (by omega)]; omega
    have en : IntKind.i64.wrap (((out.n : Nat) : Int) - 1) = (acc.length : Int) - 1 := by rw [hon, wrap_of (by omega) (by omega)]
    rw [en]
    have hb0 := (objA_cells hwd).1 0
    have hb1 := (objA_cells hwd).1 1
    generalize w6.heap.size = bx at hwd hb0 hb1 ⊢
    have push : ∀ acc', joinE acc e = e :: acc → acc' = acc → ∃ g : Int × Int, (w11.drew.cell? (⟨bx, 0, none⟩ : Addr) = some (.int .i64 g.1) ∧ w11.drew.cell? ((⟨bx, 0, none⟩ : Addr).add 1) = some (.int .i64 g.2)) ∧
        withW (w11.drew.alloc (.cells #[.int .i64 g.1, .int .i64 g.2] 56)) fun w38 => appendR out ⟨some ⟨w11.drew.heap.size, 0, none⟩, 1, 1⟩ 2 16 [.int .i64 0, .int .i64 0] 56 w38 fun s39 w40 =>
          (∃ i_1 : Nat, (IntKind.i64.wrap ((i : Int) + 1)) = i_1 ∧ i_1 ≤ so.length ∧ Sat (extsA ⟨s39.a, s39.n, s39.c⟩ ((so.take i_1).foldl joinE []).reverse * (extsA s1 so * whole w)) w40) ∧ so.length - (IntKind.i64.wrap ((i : Int) + 1)).toNat < so.length - (i : Int).toNat := by
      intro acc' hj _
      refine ⟨(e.first, e.len), ⟨hb0, by rw [add_mk]; exact hb1⟩, ?_⟩
      rw [withW_iff]
      have hwe := hwd.right.alloc (.cells #[.int .i64 e.first, .int .i64 e.len] 56)
      refine exts_push (x := e) (l := acc.reverse) hwe.right (hwe.cell 0) (hwe.cell 1) (by simp; omega) fun s' w' hs' => ⟨⟨i + 1, e1, by omega, ?_⟩, by rw [e1]; simp; omega⟩
      rw [hnext, hj, List.reverse_cons]
      exact hs'
    cases acc with
    | nil =>
      refine bsplit_decide.2 ⟨fun h0 => by simp at h0, fun _ => push [] rfl rfl⟩
    | cons x r =>
      have hxo := haok x (by simp)
      have hn1 : ((x :: r).length : Int) - 1 = (r.length : Nat) := by simp
      rw [hn1]
      have hcells : (x :: r).reverse.flatMap encE = r.reverse.flatMap encE ++ [.int .i64 x.first, .int .i64 x.len] := by
        rw [List.reverse_cons, List.flatMap_append]; rfl
      have hwd2 : Sat (extsA out (x :: r).reverse * (objA (some ⟨bx, 0, none⟩) [.int .i64 e.first, .int .i64 e.len] * (extsA s1 so * whole w))) w11.drew := hwd.eq (by ac_rfl)
      obtain ⟨ad2, ha2, hd1, hd2⟩ := (extsA_on hwd2.left).2 r.length (by simp)
      have hrl : (x :: r).reverse[r.length]'(by simp) = x := by simp
      rw [hrl] at hd1 hd2
      have hlt2 : ((r.length : Nat) : Int) < ((out.n : Nat) : Int) := by rw [hon]; simp; omega
      refine bsplit_decide.2 ⟨fun _ => ⟨e.first, hb0, by omega, hlt2, onP_i ha2 ⟨x.first, hd1, by omega, hlt2, onP_i ha2 ⟨x.len, hd2, bsplit_decide.2 ⟨fun hle => ?_, fun hgt => ?_⟩⟩⟩⟩, fun h0 => by omega⟩
      · unfold okE at hxo heo
        rw [wrap_of (by omega) (by omega)] at hle
        rw [withW_iff]
        have hwf := hwd2.drew
        refine ⟨fun w' => w' = w11.drew.drew, rfl, by omega, hlt2, onP_i ha2 ⟨x.len, fun w' e => e ▸ hd2, e.first, fun w' e => e ▸ hb0, e.len, fun w' e => by subst e; rw [add_mk]; exact hb1, by omega, hlt2, onP_i ha2 ⟨x.first, fun w' e => e ▸ hd1, by omega, hlt2, onP_i ha2 ?_⟩⟩⟩
        have ev : (if (IntKind.i64.wrap (IntKind.i64.wrap (e.first + e.len) - x.first) : Int) > x.len then IntKind.i64.wrap (IntKind.i64.wrap (e.first + e.len) - x.first) else x.len) = max x.len (e.first + e.len - x.first) := by
          rw [wrap_of (x := e.first + e.len) (by omega) (by omega), wrap_of (by omega) (by omega)]
          split <;> omega
        rw [ev]
        obtain ⟨b, hob, hst, hnew⟩ := ownS_store (pre := r.reverse.flatMap encE ++ [.int .i64 x.first]) (old := [.int .i64 x.len]) (post := []) (news := [.int .i64 (max x.len (e.first + e.len - x.first))]) hwf (by rw [hcells]; simp) rfl (by simp)
        rw [hob] at ha2; cases ha2
        have hpl : (r.reverse.flatMap encE ++ [Value.int .i64 x.first]).length = r.length * 2 + 1 := by rw [List.length_append, encE_length]; simp
        rw [hpl] at hst hnew
        simp only [storable, add_mk, Nat.add_zero] at hst
        simp only [storeAll, add_mk, Nat.add_zero] at hnew
        simp only [add_mk, Nat.zero_add, Int.toNat_natCast]
        refine ⟨hst, trivial, gen_w hnew fun w32 h32 => ⟨⟨i + 1, e1, by omega, ?_⟩, by rw [e1]; simp; omega⟩⟩
        rw [hnext]
        have hj : joinE (x :: r) e = ⟨x.first, max x.len (e.first + e.len - x.first)⟩ :: r := by simp only [joinE]; rw [if_pos hle]
        rw [hj]
        have hcells2 : (({ first := x.first, len := max x.len (e.first + e.len - x.first) } : Ext) :: r).reverse.flatMap encE = r.reverse.flatMap encE ++ [.int .i64 x.first] ++ [.int .i64 (max x.len (e.first + e.len - x.first))] ++ [] := by
          rw [List.reverse_cons, List.flatMap_append]; simp [encE]
        have : Sat (extsA out (({ first := x.first, len := max x.len (e.first + e.len - x.first) } : Ext) :: r).reverse * (objA (some ⟨bx, 0, none⟩) [.int .i64 e.first, .int .i64 e.len] * (extsA s1 so * whole w))) w32 := by
          unfold extsA
          rw [hcells2]
          exact h32
        exact (this.eq (by ac_rfl : _ = objA (some ⟨bx, 0, none⟩) [.int .i64 e.first, .int .i64 e.len] * (extsA out (({ first := x.first, len := max x.len (e.first + e.len - x.first) } : Ext) :: r).reverse * (extsA s1 so * whole w)))).right
      · unfold okE at hxo heo
        rw [wrap_of (by omega) (by omega)] at hgt
        exact push (x :: r) (by simp only [joinE]; rw [if_neg hgt]) rfl
  · obtain rfl : i = so.length := by simp at hge; omega
    rw [List.take_length] at hw
    rw [← hjm] at hw
    have : Sat (extsA s1 so * (extsA out (joinM l) * whole w)) w6 := hw.eq (by ac_rfl)
    exact hk _ _ (Sat.frame this.right h)
theorem set_add {p : Option Addr} {S : XSet} {s : SV} {l : List Ext} {R : HP} {w : World} {K : Int → World → Prop} (h : Sat (setA p S * R) w) (ok : SetOk S) (hl : extsOn (hp w) s l) (hn : S.l.length + l.length ≤ 2 ^ 30) (hk : ∀ w', Sat (setA p (S.add l).1 * R) w' → K (S.add l).2 w') : c_ival_Set_Add p s w K := by
  refine ival_Set_Add_go (all_c hl (by omega) fun w2 k2 => bsplit_iff.2 ⟨fun hm => ?_, fun hm => ?_⟩)
  · have : S.add l = (S, 1) := by unfold XSet.add; rw [if_pos (by simpa using hm)]
    rw [this] at hk; exact hk _ (k2.sat h)
  have hm' : ¬ l.all may = false := by simpa using hm
  have hln := hl.1
  refine bsplit_decide.2 ⟨fun h0 => ?_, fun h0 => ?_⟩
  · have : S.add l = (S, 0) := by unfold XSet.add; rw [if_neg hm', if_pos (by omega)]
    rw [this] at hk; exact hk _ (k2.sat h)
  have h0' : ¬ l.length = 0 := by omega
  obtain ⟨b, rfl⟩ := set_ptr h
  obtain ⟨s4, h2⟩ := setA_open (k2.sat h)
  refine bsplit_iff.2 ⟨fun e => (by cases e), fun _ => ?_⟩
  rw [onP_some, add_mk]
  refine ⟨s4, (objA_cells h2).1 1, ?_⟩
  rw [withW_iff]
  have h3 := h2.alloc (.cells #[.slice s4.a s4.n s4.c, .slice s.a s.n s.c] 153)
  have k3 := Keep.alloc w2 (.cells #[.slice s4.a s4.n s4.c, .slice s.a s.n s.c] 153)
  have hwh : ∀ x ∈ S.l ++ l, okE x := fun x hx => by
    rcases List.mem_append.1 hx with h' | h'
    · exact ok.1 x h'
    · exact okE_may (List.all_eq_true.1 (by simpa using hm') x h')
  refine concat_c (s1 := s4) (s2 := s) h3.right (h3.cell 0) (h3.cell 1) (extsA_on h3.right.right.left) (extsOn_le (keep_le (k2.trans k3)) hl) (by omega) fun s6 w7 h7 => ?_
  refine joined_c h7.right (extsA_on h7.left) (by simpa using hn) hwh fun s8 w9 h9 => ?_
  rw [onP_some]
  have h10 : Sat (objA (some ⟨b, 0, none⟩) [.int .i64 S.most, slv s4] * (extsA s8 (joinM (S.l ++ l)) * (extsA s4 S.l * R))) w9 := h9.eq (by ac_rfl)
  have hs8 := extsA_n h9
  refine ⟨S.most, (objA_cells h10).1 0, bsplit_decide.2 ⟨fun hbig => ?_, fun hbig => ?_⟩⟩
  · have : S.add l = (S, 7) := by unfold XSet.add; rw [if_neg hm', if_neg h0', if_pos (by omega)]
    rw [this] at hk
    exact hk _ (setA_close (s := s4) (h9.right))
  · have : S.add l = ({ S with l := joinM (S.l ++ l) }, 0) := by unfold XSet.add; rw [if_neg hm', if_neg h0', if_neg (by omega)]
    rw [this] at hk
    rw [onP_some, add_mk]
    refine objA_store h10 (by simp) fun w' h' => hk _ ?_
    have h'' : Sat (objA (some ⟨b, 0, none⟩) [.int .i64 S.most, slv s8] * (extsA s8 (joinM (S.l ++ l)) * (extsA s4 S.l * R))) w' := h'
    refine setA_close (S := { S with l := joinM (S.l ++ l) }) (s := s8) ?_
    exact (h''.eq (by ac_rfl : _ = extsA s4 S.l * (objA (some ⟨b, 0, none⟩) [.int .i64 S.most, slv s8] * (extsA s8 (joinM (S.l ++ l)) * R)))).right
theorem set_add_ok {S : XSet} {l : List Ext} (ok : SetOk S) (hn : S.l.length + l.length ≤ 2 ^ 30) : SetOk (S.add l).1 := by
  unfold XSet.add
  split
  · exact ok
  · rename_i hm
    split
    · exact ok
    · split
      · exact ok
      · refine ⟨joinM_ok fun x hx => ?_, ?_⟩
        · rcases List.mem_append.1 hx with h' | h'
          · exact ok.1 x h'
          · exact okE_may (List.all_eq_true.1 (by simpa using hm) x h')
        · have := joinM_length (S.l ++ l)
          simp only [List.length_append] at this
          simp only; omega
end Go.Proofs.YtbolgpjcmchfoaaGreat
/- Contracts of the map of versions: what it takes in. -/
namespace Go.Proofs.YtbolgpjcmchfoaaGreat
open Go Go.Vc Go.Sl Go.Mo
theorem xmap_ptr {p : Option Addr} {M : XMap} {R : HP} {w : World} (h : Sat (xmapA p M * R) w) : ∃ b, p = some ⟨b, 0, none⟩ := by
  obtain ⟨r, h1⟩ := xmapA_open h
  obtain ⟨b, t, rfl, _⟩ := objA_open h1
  exact ⟨b, rfl⟩
theorem xmap_new {n : Int} {R : HP} {w : World} {K : Option Addr × Int → World → Prop} (h : Sat R w) (hn : 1 ≤ n ∧ n ≤ 1048576) (hk : ∀ p w', Sat (xmapA p ⟨n, [], 0⟩ * R) w' → K (p, 0) w') : c_extmap_New n w K := by
  refine extmap_New_go (bsplit_decide.2 ⟨fun h0 => by omega, fun _ => bsplit_decide.2 ⟨fun h0 => by omega, fun _ => ?_⟩⟩)
  rw [withW_iff, withW_iff]
  have h1 : Sat (slmapA putsA w.heap.size [] * R) (w.alloc (.map #[] 0)) := slmapA_new h
  have h2 : Sat (objA (some ⟨(w.alloc (.map #[] 0)).heap.size, 0, none⟩) [.int .i64 n, .map (some w.heap.size), .int .i64 0] * (slmapA putsA w.heap.size [] * R)) ((w.alloc (.map #[] 0)).alloc (.cells [.int .i64 n, .map (some w.heap.size), .int .i64 0].toArray 164)) := objA_new h1
  exact hk _ _ (xmapA_close (M := ⟨n, [], 0⟩) h2)
theorem xmap_apply {B : Nat} {p : Option Addr} {M : XMap} {t : Tx} {s : SV} {R : HP} {w : World} {K : Int → World → Prop} (h : Sat (xmapA p M * R) w) (ok : XOk B M) (hB : B ≤ 2 ^ 30) (hs : ∀ w', Sat R w' → putsOn (hp w') s t.puts) (hn : t.puts.length ≤ 2 ^ 20)
    (hk : ∀ w', Sat (xmapA p (M.apply t).1 * R) w' → K (M.apply t).2 w') : c_extmap_Map_Apply p t.time s w K := by
  obtain ⟨bp, rfl⟩ := xmap_ptr h
  have hsn : s.n = t.puts.length := (hs w h.right).1
  refine extmap_Map_Apply_go ?_
  unfold f_extmap_Map_Apply
  rw [withW_iff]
  have h1 : Sat (objA (some ⟨w.heap.size, 0, none⟩) [.int .i64 t.time, slv s] * (xmapA (some ⟨bp, 0, none⟩) M * R)) (w.alloc (.cells [.int .i64 t.time, slv s].toArray 70)) := objA_new h
  change Sat _ (w.alloc (.cells #[.int .i64 t.time, .slice s.a s.n s.c] 70)) at h1
  generalize w.alloc _ = w1 at h1 ⊢
  generalize w.heap.size = bx at h1 ⊢
  obtain ⟨r, h2⟩ := xmapA_open (h1.eq (by ac_rfl : _ = xmapA (some ⟨bp, 0, none⟩) M * (objA (some ⟨bx, 0, none⟩) [.int .i64 t.time, slv s] * R)))
  have hx0 : ∀ w', Sat (objA (some ⟨bp, 0, none⟩) [.int .i64 M.blocks, .map (some r), .int .i64 M.last] * (slmapA putsA r M.vers * (objA (some ⟨bx, 0, none⟩) [.int .i64 t.time, slv s] * R))) w' → Sat (objA (some ⟨bx, 0, none⟩) [.int .i64 t.time, slv s] * (objA (some ⟨bp, 0, none⟩) [.int .i64 M.blocks, .map (some r), .int .i64 M.last] * (slmapA putsA r M.vers * R))) w' := fun w' hw => hw.eq (by ac_rfl)
  have hback : ∀ w', Sat (objA (some ⟨bp, 0, none⟩) [.int .i64 M.blocks, .map (some r), .int .i64 M.last] * (slmapA putsA r M.vers * (objA (some ⟨bx, 0, none⟩) [.int .i64 t.time, slv s] * R))) w' → Sat (xmapA (some ⟨bp, 0, none⟩) M * R) w' := fun w' hw => xmapA_close (hx0 w' hw).right
  refine gone_some ((objA_cells h2).1 0) (bsplit_decide.2 ⟨fun h0 => by have := ok.1.1; omega, fun _ => ?_⟩)
  rw [withW_iff]
  have h3 := h2.drew
  have hb := hx0 _ h3
  refine ⟨t.time, (objA_cells hb).1 0, ?_⟩
  rw [onP_some, add_mk]
  refine ⟨M.last, (objA_cells h3).1 2, bsplit_decide.2 ⟨fun hle => ?_, fun hle => ⟨t.time, (objA_cells hb).1 0, bsplit_decide.2 ⟨fun hgt => ?_, fun hgt => ?_⟩⟩⟩⟩
  · have : M.apply t = (M, 11) := by unfold XMap.apply; rw [if_pos (.inl hle)]
    rw [this] at hk; exact hk _ (hback _ h3)
  · have : M.apply t = (M, 11) := by unfold XMap.apply; rw [if_pos (.inr hgt)]
    rw [this] at hk; exact hk _ (hback _ h3)
  have c1 : ¬ (t.time ≤ M.last ∨ 1099511627776 < t.time) := by omega
  refine ⟨s, (objA_cells hb).1 1, rise_c (hs _ hb.right.right.right) (by omega) fun w11 k11 => bsplit_iff.2 ⟨fun hr => ?_, fun hr => ?_⟩⟩
  · have : M.apply t = (M, 1) := by unfold XMap.apply; rw [if_neg c1, if_pos (by simpa using hr)]
    rw [this] at hk; exact hk _ (hback _ (k11.sat h3))
  have hr' : riseM t.puts = true := by simpa using hr
  have c2 : ¬ riseM t.puts = false := by simp [hr']
  have hpos : 0 < t.puts.length := by unfold riseM at hr'; simp only [decide_eq_true_eq] at hr'; exact hr'.1
  have h4 := k11.sat h3
  have hb4 := hx0 _ h4
  obtain ⟨ad0, d0, ha0, hc0, _, _⟩ := (hs _ hb4.right.right.right).2 0 hpos
  refine ⟨s, (objA_cells hb4).1 1, by omega, by omega, onP_i ha0 ⟨t.puts[0].lba, hc0, ?_⟩⟩
  have hhead : t.puts.headD ⟨0, []⟩ = t.puts[0] := by
    rw [List.headD_eq_head?_getD, List.head?_eq_getElem?, List.getElem?_eq_getElem hpos]; rfl
  have hlast : t.puts.getLastD ⟨0, []⟩ = t.puts[t.puts.length - 1] := by
    rw [List.getLastD_eq_getLast?, List.getLast?_eq_getElem?, List.getElem?_eq_getElem (by omega)]; rfl
  refine block_some ((objA_cells h4).1 0) (bsplit_iff.2 ⟨fun hr => ?_, fun hr => ?_⟩)
  · have : M.apply t = (M, 2) := by
      unfold XMap.apply
      rw [if_neg c1, if_neg c2, if_pos (.inl (by rw [hhead]; unfold inB; simpa only [Bool.not_eq_true'] using hr))]
    rw [this] at hk; exact hk _ (hback _ h4)
  have hin0 : inB M t.puts[0].lba = true := by unfold inB; simpa only [Bool.not_eq_false'] using hr
  have e1 : IntKind.i64.wrap (((s.n : Nat) : Int) - 1) = ((t.puts.length - 1 : Nat) : Int) := by rw [hsn, wrap_of (by omega) (by omega)]; omega
  obtain ⟨ad1, d1, ha1, hc1, _, _⟩ := (hs _ hb4.right.right.right).2 (t.puts.length - 1) (by omega)
  refine ⟨s, (objA_cells hb4).1 1, s, (objA_cells hb4).1 1, ?_⟩
  rw [e1]
  refine ⟨by omega, by omega, onP_i ha1 ⟨t.puts[t.puts.length - 1].lba, hc1, ?_⟩⟩
  refine block_some ((objA_cells h4).1 0) (bsplit_iff.2 ⟨fun hr => ?_, fun hr => ?_⟩)
  · have : M.apply t = (M, 2) := by
      unfold XMap.apply
      rw [if_neg c1, if_neg c2, if_pos (.inr (by rw [hlast]; unfold inB; simpa only [Bool.not_eq_true'] using hr))]
    rw [this] at hk; exact hk _ (hback _ h4)
  have hin1 : inB M t.puts[t.puts.length - 1].lba = true := by unfold inB; simpa only [Bool.not_eq_false'] using hr
  have c3 : ¬ (inB M (t.puts.headD ⟨0, []⟩).lba = false ∨ inB M (t.puts.getLastD ⟨0, []⟩).lba = false) := by rw [hhead, hlast, hin0, hin1]; simp
  refine ⟨s, (objA_cells hb4).1 1, lens2_c (hs _ hb4.right.right.right) (by omega) fun w25 k25 => bsplit_iff.2 ⟨fun hr => ?_, fun hr => ?_⟩⟩
  · have : M.apply t = (M, 3) := by unfold XMap.apply; rw [if_neg c1, if_neg c2, if_neg c3, if_pos hr]
    rw [this] at hk; exact hk _ (hback _ (k25.sat h4))
  have hap : M.apply t = ({ M with vers := t.puts.foldl (addVer t.time) M.vers, last := t.time }, 0) := by unfold XMap.apply; rw [if_neg c1, if_neg c2, if_neg c3, if_neg (by simp [hr])]
  rw [hap] at hk
  have hb5 := hx0 _ (k25.sat h4)
  have hd40 : ∀ x ∈ t.puts, x.data.length = 40 := fun x hx => by
    have := List.any_eq_false.1 hr x hx
    simpa [badLen] using this
  refine ⟨s, (objA_cells hb5).1 1, ?_⟩
  have hkeys : ∀ i, i ≤ t.puts.length → ∀ k, ((lkp ((t.puts.take i).foldl (addVer t.time) M.vers) k).getD []).length ≤ B + i := by
    intro i
    induction i with
    | zero =>
      intro _ k
      cases e : lkp M.vers k with
      | none => simp [e]
      | some v => simp [e]; have := (ok.2.2 _ (lkp_mem e)).2.2.1; simpa using this
    | succ i ih =>
      intro hi k
      have := ih (by omega)
      rw [List.take_succ_eq_append_getElem (by omega), List.foldl_append]
      simp only [List.foldl_cons, List.foldl_nil, addVer]
      rw [lkp_put]
      split
      · simp only [Option.getD_some, versOf, List.length_append, List.length_singleton]
        have := this t.puts[i].lba; omega
      · have := this k; omega
  refine loop_i (fun (x : Int) w' => ∃ i : Nat, x = i ∧ i ≤ t.puts.length ∧ Sat (objA (some ⟨bx, 0, none⟩) [.int .i64 t.time, slv s] * (objA (some ⟨bp, 0, none⟩) [.int .i64 M.blocks, .map (some r), .int .i64 M.last] * (slmapA putsA r ((t.puts.take i).foldl (addVer t.time) M.vers) * R))) w') (fun x _ => t.puts.length - x.toNat) ⟨0, rfl, by omega, hb5⟩ ?_
  rintro x w2 ⟨i, rfl, hi, hw2⟩
  refine bsplit_decide.2 ⟨fun hlt => ?_, fun hge => ?_⟩
  · have hlt' : i < t.puts.length := by omega
    obtain ⟨ad, d, ha, hc1, hc2', hd⟩ := (hs _ hw2.right.right.right).2 i hlt'
    have hvl := hkeys i hi t.puts[i].lba
    have hnext : (t.puts.take (i + 1)).foldl (addVer t.time) M.vers = addVer t.time ((t.puts.take i).foldl (addVer t.time) M.vers) t.puts[i] := by
      rw [List.take_succ_eq_append_getElem hlt', List.foldl_append]; rfl
    generalize hvs : (t.puts.take i).foldl (addVer t.time) M.vers = vs at hw2 hvl hnext
    have hlen := hd40 _ (List.getElem_mem hlt')
    generalize t.puts[i] = u at *
    refine ⟨by omega, by omega, onP_i ha ⟨(u.lba, d), ⟨hc1, hc2'⟩, box2 hw2 fun w3 k3 hw3 => ?_⟩⟩
    rw [withW_iff]
    have hw4 := hw3.drew
    have hdb := bytesOn_le (keep_le (k3.trans (Keep.drew _))) hd
    have e2 : IntKind.i64.wrap ((i : Int) + 1) = ((i + 1 : Nat) : Int) := by rw [wrap_of (by omega) (by omega)]; omega
    generalize w2.heap.size = bu at hw4 ⊢
    -- what the operations read
    obtain ⟨es, cl, H, sv, hsv, h5, hput⟩ := slmapA_hole (A := putsA) (d0 := []) (fun R w hw => pairsA_nil hw rfl rfl) (hw4.eq (by ac_rfl : _ = slmapA putsA r vs * (objA (some ⟨bu, 0, none⟩) [.int .i64 u.lba, slv d] * (objA (some ⟨bx, 0, none⟩) [.int .i64 t.time, slv s] * (objA (some ⟨bp, 0, none⟩) [.int .i64 M.blocks, .map (some r), .int .i64 M.last] * R))))) u.lba
    obtain ⟨S, hS⟩ : ∃ S : World → Prop, S = fun w' => Sat (mapE r es cl * (objA (some ⟨bu, 0, none⟩) [.int .i64 u.lba, slv d] * (objA (some ⟨bx, 0, none⟩) [.int .i64 t.time, slv s] * objA (some ⟨bp, 0, none⟩) [.int .i64 M.blocks, .map (some r), .int .i64 M.last]))) w' := ⟨_, rfl⟩
    have toS : ∀ (X : HP) w', Sat (X * (mapE r es cl * (objA (some ⟨bu, 0, none⟩) [.int .i64 u.lba, slv d] * (objA (some ⟨bx, 0, none⟩) [.int .i64 t.time, slv s] * objA (some ⟨bp, 0, none⟩) [.int .i64 M.blocks, .map (some r), .int .i64 M.last])))) w' → S w' := fun X w' hw => by rw [hS]; exact hw.right
    have S1 : ∀ w', S w' → w'.cell? ⟨bp, 1, none⟩ = some (.map (some r)) := fun w' hw => by
      rw [hS] at hw
      exact (objA_cells (b := bp) (vs := [.int .i64 M.blocks, .map (some r), .int .i64 M.last]) (R := 1) (hw.right.right.right.eq (mul_one' _).symm)).1 1
    have S2 : ∀ w', S w' → w'.cell? ⟨bu, 0, none⟩ = some (.int .i64 u.lba) ∧ w'.cell? ⟨bu, 1, none⟩ = some (slv d) := fun w' hw => by
      rw [hS] at hw
      exact ⟨(objA_cells hw.right).1 0, (objA_cells hw.right).1 1⟩
    have S3 : ∀ w', S w' → w'.cell? ⟨bx, 0, none⟩ = some (.int .i64 t.time) := fun w' hw => by
      rw [hS] at hw
      exact (objA_cells hw.right.right).1 0
    have S4 : ∀ w', S w' → ∃ cl, mapAt w' r .i64 es cl := fun w' hw => by
      rw [hS] at hw
      exact ⟨cl, mapE_at hw⟩
    refine ⟨S, toS (putsA sv (versOf vs u.lba) * (H * R)) _ (h5.eq ?_), ?_⟩
    · unfold versOf; ac_rfl
    rw [onP_some, add_mk]
    refine ⟨some r, S1, u.lba, fun w' hw => (S2 w' hw).1, some r, S1, u.lba, fun w' hw => (S2 w' hw).1, rfl, ?_⟩
    rw [onM_some]
    refine ⟨es, S4, sv, hsv, t.time, S3, d, fun w' hw => (S2 w' hw).2, clone_bytes h5 hdb (by omega) fun s' w5 hs' hw5 => ⟨toS (ownS 1 s' (bytesV u.data) * (putsA sv (versOf vs u.lba) * (H * R))) _ (hw5.eq (by unfold versOf; ac_rfl)), ?_⟩⟩
    rw [withW_iff]
    have hw6 := hw5.alloc (.cells #[.int .i64 t.time, .slice s'.a s'.n s'.c] 185)
    have hc60 := hw6.cell 0
    have hc61 := hw6.cell 1
    generalize hbn : w5.heap.size = bn at hw6 hc60 hc61 ⊢
    have hw7 := hw6.right
    refine ⟨toS (ownS 1 s' (bytesV u.data) * (putsA sv (versOf vs u.lba) * (H * R))) _ (hw7.eq (by unfold versOf; ac_rfl)), ?_⟩
    have hvl' : (versOf vs u.lba).length ≤ B + i := hvl
    refine pairsA_push (num := Put.lba) (A := fun s x => byteRow s x.data) (x := (⟨t.time, u.data⟩ : Put)) (d := s') (l := versOf vs u.lba) (R := mapE r es cl * (H * (objA (some ⟨bu, 0, none⟩) [.int .i64 u.lba, slv d] * (objA (some ⟨bx, 0, none⟩) [.int .i64 t.time, slv s] * (objA (some ⟨bp, 0, none⟩) [.int .i64 M.blocks, .map (some r), .int .i64 M.last] * R))))) (hw7.eq ?_) ⟨hc60, hc61⟩ (by omega) (by omega) rfl fun s2 w8 hw8 => ?_
    · unfold versOf
      show ownS 1 s' (bytesV u.data) * (mapE r es cl * (putsA sv _ * _)) = putsA sv _ * (ownS 1 s' (bytesV u.data) * _)
      ac_rfl
    · change Sat (putsA s2 (versOf vs u.lba ++ [⟨t.time, u.data⟩]) * _) w8 at hw8
      refine ⟨toS (putsA s2 (versOf vs u.lba ++ [⟨t.time, u.data⟩]) * (H * R)) _ (hw8.eq (by ac_rfl)), rfl, ?_⟩
      rw [onM_some]
      obtain ⟨hm, hw9⟩ := hput (objA (some ⟨bu, 0, none⟩) [.int .i64 u.lba, slv d] * (objA (some ⟨bx, 0, none⟩) [.int .i64 t.time, slv s] * (objA (some ⟨bp, 0, none⟩) [.int .i64 M.blocks, .map (some r), .int .i64 M.last] * R))) w8 s2 (versOf vs u.lba ++ [⟨t.time, u.data⟩]) (hw8.eq (by ac_rfl))
      refine ⟨es, cl, hm, gen_w hw9 fun w9 hw9 => ⟨⟨i + 1, e2, by omega, ?_⟩, by rw [e2]; simp; omega⟩⟩
      rw [hnext]
      have : Sat (objA (some ⟨bu, 0, none⟩) [.int .i64 u.lba, slv d] * (objA (some ⟨bx, 0, none⟩) [.int .i64 t.time, slv s] * (objA (some ⟨bp, 0, none⟩) [.int .i64 M.blocks, .map (some r), .int .i64 M.last] * (slmapA putsA r (addVer t.time vs u) * R)))) w9 := hw9.eq (by unfold addVer; ac_rfl)
      exact this.right
  · obtain rfl : i = t.puts.length := by omega
    rw [List.take_length] at hw2
    refine ⟨t.time, (objA_cells hw2).1 0, ?_⟩
    rw [onP_some, add_mk]
    refine objA_store (vs := [.int .i64 M.blocks, .map (some r), .int .i64 M.last]) hw2.right (by simp) fun w' h' => hk _ ?_
    exact xmapA_close (M := { M with vers := t.puts.foldl (addVer t.time) M.vers, last := t.time }) h'
end Go.Proofs.YtbolgpjcmchfoaaGreat
/- Contracts of the map of versions: what was written, and how many versions there are. -/
namespace Go.Proofs.YtbolgpjcmchfoaaGreat
open Go Go.Vc Go.Sl Go.Mo
theorem xmap_written {B : Nat} {p : Option Addr} {M : XMap} {e : Ext} {after : Int} {R : HP} {w : World} {K : Bool → World → Prop} (h : Sat (xmapA p M * R) w) (ok : XOk B M) (hB : B ≤ 2 ^ 31)
    (hk : ∀ w', Keep w w' → K (M.written e after) w') : c_extmap_Map_Written p e.first e.len after w K := by
  obtain ⟨bp, rfl⟩ := xmap_ptr h
  refine extmap_Map_Written_go ?_
  unfold f_extmap_Map_Written
  rw [withW_iff]
  obtain ⟨r, h0⟩ := xmapA_open h
  have h1 : Sat (objA (some ⟨w.heap.size, 0, none⟩) [.int .i64 e.first, .int .i64 e.len] * (objA (some ⟨bp, 0, none⟩) [.int .i64 M.blocks, .map (some r), .int .i64 M.last] * (slmapA putsA r M.vers * R))) (w.alloc (.cells [.int .i64 e.first, .int .i64 e.len].toArray 56)) := objA_new h0
  have k1 := Keep.alloc w (.cells #[.int .i64 e.first, .int .i64 e.len] 56)
  change Sat _ (w.alloc (.cells #[.int .i64 e.first, .int .i64 e.len] 56)) at h1
  generalize w.alloc _ = w1 at h1 k1 ⊢
  generalize w.heap.size = bx at h1 ⊢
  have hno : may e = false → K false w1 := fun hm => by
    have := hk w1 k1
    unfold XMap.written at this
    simpa [hm] using this
  refine gone_some ((objA_cells h1.right).1 0) (bsplit_decide.2 ⟨fun h0 => by have := ok.1.1; omega, fun _ => ?_⟩)
  have c0 := (objA_cells h1).1 0
  have c1 := (objA_cells h1).1 1
  refine ⟨e.first, c0, bsplit_decide.2 ⟨fun a1 => hno (by simp [may]; omega), fun a1 => ⟨e.first, c0, bsplit_decide.2 ⟨fun a2 => hno (by simp [may]; omega), fun a2 => ⟨e.len, by rw [add_mk]; exact c1, bsplit_decide.2 ⟨fun a3 => hno (by simp [may]; omega), fun a3 =>
    ⟨e.len, by rw [add_mk]; exact c1, e.first, c0, ?_⟩⟩⟩⟩⟩⟩⟩
  rw [wrap_of (by omega) (by omega)]
  refine bsplit_decide.2 ⟨fun a4 => hno (by simp [may]; omega), fun a4 => ⟨e.len, by rw [add_mk]; exact c1, bsplit_decide.2 ⟨fun a5 => hno (by simp [may]; omega), fun a5 => ?_⟩⟩⟩
  have hm : may e = true := by simp [may]; omega
  rw [onP_some, add_mk]
  refine ⟨some r, (objA_cells h1.right).1 1, ?_⟩
  rw [onM_some]
  obtain ⟨es, cl, xs, mok, hxs, he1, he2, huniq, h2, _⟩ := slmapA_iter (h1.eq (by ac_rfl : _ = slmapA putsA r M.vers * (objA (some ⟨bx, 0, none⟩) [.int .i64 e.first, .int .i64 e.len] * (objA (some ⟨bp, 0, none⟩) [.int .i64 M.blocks, .map (some r), .int .i64 M.last] * R))))
  refine ⟨_, cl, h2.get, ?_⟩
  rw [withW_iff]
  have hit : Sat (iterP w1.heap.size r cl #[] * whole w1) (w1.alloc (.mapIter (some r) cl #[] cl)) := (sat_whole w1).alloc _
  have hcell : ∀ w', Sat (whole w1) w' → Keep w1 w' := fun w' hw => Keep.whole hw
  generalize w1.heap.size = it at hit ⊢
  have hmap : ∀ w', Sat (whole w1) w' → mapAt w' r .i64 es cl := fun w' hw => keep_heap (hcell w' hw) (mapE_at h2)
  refine loop_i (fun (x : Bool) w' => ∃ seen, Sat (iterP it r cl seen * whole w1) w' ∧ ∀ f ∈ es, f.b ∈ seen → ∀ s b, (f.k, (s, b)) ∈ xs → hitV e after (f.k, b) = false) (fun _ w' => match w'.heap[it]? with | some (.mapIter _ _ seen _) => left es seen | _ => 0) ⟨#[], hit, by simp⟩ ?_
  rintro x w4 ⟨seen, hw, hseen⟩
  have hleft : (match w4.heap[it]? with | some (.mapIter _ _ seen _) => left es seen | _ => 0) = left es seen := by rw [hw.get]
  rw [hleft]
  refine iter_step (enc := fun x : SV => .slice x.a x.n x.c) hw hmap mok (fun f hf => ?_) (fun f hf hfs x hx w' hw' => ?_) (fun hall w' hw' => ?_)
  · obtain ⟨s, b, _, hv⟩ := he1 f hf
    exact ⟨s, hv⟩
  · obtain ⟨s, b, hmem, hv⟩ := he1 f hf
    obtain rfl : x = s := by
      rw [hx] at hv; unfold slv at hv
      cases x; cases s; simp_all
    have kk := hcell w' hw'.right
    have hb : Sat (putsA x b) w1 := all_mem (A := fun x : Int × (SV × List Put) => putsA x.2.1 x.2.2) hmem h2.right.left
    have hbok : 0 < b.length ∧ b.length ≤ B := by
      have : (f.k, b) ∈ M.vers := hxs ▸ List.mem_map.2 ⟨(f.k, (x, b)), hmem, rfl⟩
      exact ⟨(ok.2.2 _ this).2.1, (ok.2.2 _ this).2.2.1⟩
    have hfk : 0 ≤ f.k ∧ f.k < 1048576 := by
      have : (f.k, b) ∈ M.vers := hxs ▸ List.mem_map.2 ⟨(f.k, (x, b)), hmem, rfl⟩
      have h3 := (ok.2.2 _ this).1
      have h4 := ok.1.2
      simp only at h3; omega
    have hlt : left es (seen.push f.b) < left es seen := left_lt hf hfs
    have hnew : (match w'.heap[it]? with | some (.mapIter _ _ seen _) => left es seen | _ => 0) < left es seen := by rw [hw'.get]; exact hlt
    have next : hitV e after (f.k, b) = false → (∃ seen, Sat (iterP it r cl seen * whole w1) w' ∧ ∀ f ∈ es, f.b ∈ seen → ∀ s b, (f.k, (s, b)) ∈ xs → hitV e after (f.k, b) = false) ∧ (match w'.heap[it]? with | some (.mapIter _ _ seen _) => left es seen | _ => 0) < left es seen := by
      intro hh
      refine ⟨⟨seen.push f.b, hw', fun g hg hgs s' b' hmem' => ?_⟩, hnew⟩
      rcases Array.mem_push.1 hgs with h3 | h3
      · exact hseen g hg h3 s' b' hmem'
      · have : g = f := by
          have hn := mok.2.1
          clear hw hmap hw' hit hnew hlt hleft
          refine Classical.byContradiction fun hne => ?_
          have hp := List.pairwise_map.1 hn
          rcases List.getElem_of_mem hg with ⟨i, hi, rfl⟩
          rcases List.getElem_of_mem hf with ⟨j, hj, rfl⟩
          rcases Nat.lt_trichotomy i j with h | h | h
          · exact List.pairwise_iff_getElem.1 hp i j hi hj h h3
          · subst h; exact hne rfl
          · exact List.pairwise_iff_getElem.1 hp j i hj hi h h3.symm
        subst this
        have := huniq _ _ _ hmem hmem'
        simp only [Prod.mk.injEq] at this
        rw [← this.2]; exact hh
    have d0 := keep_cell kk c0
    have d1 := keep_cell kk c1
    refine ⟨e.first, d0, bsplit_decide.2 ⟨fun b1 => ⟨e.first, d0, e.len, by rw [add_mk]; exact d1, ?_⟩, fun b1 => next (by simp [hitV]; omega)⟩⟩
    rw [wrap_of (by omega) (by omega)]
    refine bsplit_decide.2 ⟨fun b2 => ?_, fun b2 => next (by simp [hitV]; omega)⟩
    have hpo := putsA_on hb
    have hxn := hpo.1
    obtain ⟨ad, d, ha, hc0, _, _⟩ := (putsOn_le (keep_le kk) hpo).2 (b.length - 1) (by omega)
    have e1 : IntKind.i64.wrap (((x.n : Nat) : Int) - 1) = ((b.length - 1 : Nat) : Int) := by rw [hxn, wrap_of (by omega) (by omega)]; omega
    rw [e1]
    have hlast : lastT b = b[b.length - 1].lba := by
      unfold lastT
      rw [List.getLastD_eq_getLast?, List.getLast?_eq_getElem?, List.getElem?_eq_getElem (by omega)]; rfl
    refine ⟨by omega, by omega, onP_i ha ⟨b[b.length - 1].lba, hc0, bsplit_decide.2 ⟨fun b3 => ?_, fun b3 => next (by simp [hitV, hlast]; omega)⟩⟩⟩
    have : M.written e after = true := by
      unfold XMap.written
      rw [hm, Bool.true_and, List.any_eq_true]
      exact ⟨(f.k, b), hxs ▸ List.mem_map.2 ⟨(f.k, (x, b)), hmem, rfl⟩, by simp [hitV, hlast, b1, b2, b3]⟩
    rw [← this]
    exact hk _ (k1.trans kk)
  · have : M.written e after = false := by
      unfold XMap.written
      rw [hm, Bool.true_and, List.any_eq_false]
      intro q hq
      obtain ⟨f, hf, s, hfk, hmem⟩ := he2 q hq
      have := hseen f hf (hall f hf) s q.2 hmem
      rw [hfk] at this
      simpa using this
    rw [← this]
    exact hk _ (k1.trans (hcell w' hw'.right))
end Go.Proofs.YtbolgpjcmchfoaaGreat
/- Contracts: does a transaction conflict? -/
namespace Go.Proofs.YtbolgpjcmchfoaaGreat
open Go Go.Vc Go.Sl Go.Mo
theorem against1_c {x : Put} {d : SV} {c : Nat} {p : Option Addr} {S : XSet} {R : HP} {w : World} {K : Bool → World → Prop} (h : Sat (setA p S * R) w) (ok : SetOk S) (hc : w.cell? ⟨c, 0, none⟩ = some (.pointer p)) (hk : ∀ w', Keep w w' → K (S.has x.lba) w') : c_valid_Against_1 x.lba d (some ⟨c, 0, none⟩) w K := by
  refine valid_Against_1_go ?_
  unfold f_valid_Against_1
  rw [withW_iff, onP_some]
  have k1 := Keep.alloc w (.cells #[.int .i64 x.lba, .slice d.a d.n d.c] 33)
  exact ⟨p, keep_cell k1 hc, x.lba, by rw [World.cell?_alloc_new]; rfl, set_has (k1.sat h) ok fun w' kw => hk _ (k1.trans kw)⟩
theorem against_c {t : Tx} {s : SV} {p : Option Addr} {S : XSet} {R : HP} {w : World} {K : Bool → World → Prop} (h : Sat (setA p S * R) w) (ok : SetOk S) (hl : putsOn (hp w) s t.puts) (hn : t.puts.length ≤ 2 ^ 60) (hk : ∀ w', Keep w w' → K (againstM t S) w') : c_valid_Against t.time s p w K := by
  refine valid_Against_go ?_
  unfold f_valid_Against
  simp only [withW_iff]
  have k1 := Keep.alloc w (.cells #[.int .i64 t.time, .slice s.a s.n s.c] 70)
  have k2 := Keep.alloc (w.alloc (.cells #[.int .i64 t.time, .slice s.a s.n s.c] 70)) (.cells #[.pointer p] 171)
  refine ⟨s, by rw [add_mk, World.cell?_alloc_lt _ _ _ (by simp), World.cell?_alloc_new]; rfl, ?_⟩
  have hc : ((w.alloc (.cells #[.int .i64 t.time, .slice s.a s.n s.c] 70)).alloc (.cells #[.pointer p] 171)).cell? ⟨(w.alloc (.cells #[.int .i64 t.time, .slice s.a s.n s.c] 70)).heap.size, 0, none⟩ = some (.pointer p) := by rw [World.cell?_alloc_new]; rfl
  have kk := k1.trans k2
  generalize (w.alloc (.cells #[.int .i64 t.time, .slice s.a s.n s.c] 70)).heap.size = bx at hc ⊢
  generalize (w.alloc (.cells #[.int .i64 t.time, .slice s.a s.n s.c] 70)).alloc (.cells #[.pointer p] 171) = w2 at hc kk ⊢
  refine slices_ContainsFunc_api_Put_api_Put_at_valid_Against_1_go ?_
  refine slices_IndexFunc_api_Put_api_Put_at_valid_Against_1_go ?_
  refine find_puts (p := fun x => S.has x.lba) (post := fun r w => K (decide (0 ≤ r)) w) (call := fun a d w K => c_valid_Against_1 a d (some ⟨bx, 0, none⟩) w K) (putsOn_le (keep_le kk) hl) hn (fun x _ d w' K kw _ hk => against1_c ((kk.trans kw).sat h) ok (keep_cell kw hc) hk) fun r w' hw hr => ?_
  rw [hr]
  exact hk _ (kk.trans hw)
theorem valid_c {B : Nat} {pm pr ps : Option Addr} {M : XMap} {q : SV} {l : List Tx} {at_ : Int} {Sr Ss : XSet} {R1 R2 R3 : HP} {w : World} {K : Int → World → Prop} (hM : Sat (xmapA pm M * R1) w) (okM : XOk B M) (hB : B ≤ 2 ^ 31) (hr : Sat (setA pr Sr * R2) w) (okr : SetOk Sr) (hs : Sat (setA ps Ss * R3) w) (oks : SetOk Ss)
    (hq : txsOn (hp w) q l) (hql : l.length ≤ 2 ^ 40 ∧ ∀ t ∈ l, t.puts.length ≤ 2 ^ 40) (hk : ∀ w', Keep w w' → K (validM M l at_ Sr Ss) w') : c_valid_Check pm q at_ pr ps w K := by
  refine valid_Check_go (set_count hs oks fun w2 k2 => bsplit_decide.2 ⟨fun h0 => ?_, fun h0 => ?_⟩)
  · have : validM M l at_ Sr Ss = 0 := by unfold validM; rw [if_pos h0]
    rw [← this]; exact hk _ k2
  have hval : validM M l at_ Sr Ss = if hitS M l at_ Sr || hitS M l at_ Ss then 8 else 0 := by unfold validM; rw [if_neg h0]
  have hyes : (hitS M l at_ Sr || hitS M l at_ Ss) = true → ∀ w', Keep w w' → K 8 w' := fun h w' kw => by have := hk w' kw; rw [hval, if_pos h] at this; exact this
  have w01 : IntKind.i64.wrap ((0 : Int) + 1) = 1 := by rw [wrap_of (by omega) (by omega)]; rfl
  have w12 : IntKind.i64.wrap ((1 : Int) + 1) = 2 := by rw [wrap_of (by omega) (by omega)]; rfl
  have hqn := hq.1
  -- one of the two sets
  have one : ∀ (p : Option Addr) (S : XSet) (R : HP) (w4 : World) (nxt : Int → World → Prop), Keep w w4 → Sat (setA p S * R) w → SetOk S → (hitS M l at_ S = true → ∀ w', Keep w w' → K 8 w') → (hitS M l at_ S = false → ∀ w', Keep w w' → nxt 0 w') →
      c_ival_Set_Extents p w4 fun (x7 : SV) w8 =>
          (loopR (α := Int × Int) ((0 : Int), 0) w8 fun x9 w10 next11 =>
           (bsplit (decide ((x9.2 : Int) < ((x7.n : Nat) : Int)))
            ((0 ≤ (x9.2 : Int) ∧ (x9.2 : Int) < ((x7.n : Nat) : Int) ∧
              (onP x7.a fun p12 =>
               (∃ g13 : Int × Int, (w10.cell? (p12.add ((x9.2 : Int).toNat * 2)) = some (.int .i64 g13.1) ∧ w10.cell? ((p12.add ((x9.2 : Int).toNat * 2)).add 1) = some (.int .i64 g13.2)) ∧
                (withW (w10.alloc (.cells #[.int .i64 0, .int .i64 0] 56)) fun w14 =>
                 ((((∃ u, w14.cell? (⟨w10.heap.size, 0, none⟩ : Addr) = some u) ∧ w14.frozen? (⟨w10.heap.size, 0, none⟩ : Addr) = false) ∧ ((∃ u, w14.cell? ((⟨w10.heap.size, 0, none⟩ : Addr).add 1) = some u) ∧ w14.frozen? ((⟨w10.heap.size, 0, none⟩ : Addr).add 1) = false)) ∧ (true = true) ∧
                  (withW ((w14.setCell (⟨w10.heap.size, 0, none⟩ : Addr) (.int .i64 g13.1)).setCell ((⟨w10.heap.size, 0, none⟩ : Addr).add 1) (.int .i64 g13.2)) fun w15 =>
                   (∃ n16 : Int, (w15.cell? (⟨w10.heap.size, 0, none⟩ : Addr) = some (.int .i64 n16)) ∧
                    (∃ n17 : Int, (w15.cell? ((⟨w10.heap.size, 0, none⟩ : Addr).add 1) = some (.int .i64 n17)) ∧
                     (withW (w15.alloc (.cells #[.int .i64 0, .int .i64 0] 56)) fun w18 =>
                      ((((∃ u, w18.cell? (⟨w15.heap.size, 0, none⟩ : Addr) = some u) ∧ w18.frozen? (⟨w15.heap.size, 0, none⟩ : Addr) = false) ∧ ((∃ u, w18.cell? ((⟨w15.heap.size, 0, none⟩ : Addr).add 1) = some u) ∧ w18.frozen? ((⟨w15.heap.size, 0, none⟩ : Addr).add 1) = false)) ∧ (true = true) ∧
                       (withW ((w18.setCell (⟨w15.heap.size, 0, none⟩ : Addr) (.int .i64 (IntKind.i64.wrap ((IntKind.i64.wrap (n16 + n17)) - 1)))).setCell ((⟨w15.heap.size, 0, none⟩ : Addr).add 1) (.int .i64 1)) fun w19 =>
                        (∃ n20 : Int, (w19.cell? ((⟨w10.heap.size, 0, none⟩ : Addr).add 1) = some (.int .i64 n20)) ∧
                         ((((∃ u, w19.cell? ((⟨w10.heap.size, 0, none⟩ : Addr).add 1) = some u) ∧ w19.frozen? ((⟨w10.heap.size, 0, none⟩ : Addr).add 1) = false)) ∧ (true = true) ∧
                          (withW (w19.setCell ((⟨w10.heap.size, 0, none⟩ : Addr).add 1) (.int .i64 (if (1048576 : Int) < n20 then 1048576 else n20))) fun w21 =>
                           (∃ g22 : Int × Int, (w21.cell? (⟨w10.heap.size, 0, none⟩ : Addr) = some (.int .i64 g22.1) ∧ w21.cell? ((⟨w10.heap.size, 0, none⟩ : Addr).add 1) = some (.int .i64 g22.2)) ∧
                            (c_extmap_Map_Written pm g22.1 g22.2 at_ w21 fun (x23 : Bool) w24 =>
                             (bsplit x23
                              (K 8 w24)
                              ((∃ g25 : Int × Int, (w24.cell? (⟨w15.heap.size, 0, none⟩ : Addr) = some (.int .i64 g25.1) ∧ w24.cell? ((⟨w15.heap.size, 0, none⟩ : Addr).add 1) = some (.int .i64 g25.2)) ∧
                                (c_extmap_Map_Written pm g25.1 g25.2 at_ w24 fun (x26 : Bool) w27 =>
                                 (bsplit x26
                                  (K 8 w27)
                                  (next11 (x9.1, (IntKind.i64.wrap (x9.2 + 1))) w27)))))))))))))))))))))))
            ((loopR (α := Int × Int) (x9.1, 0) w10 fun x28 w29 next30 =>
              (bsplit (decide ((x28.2 : Int) < ((q.n : Nat) : Int)))
               ((0 ≤ (x28.2 : Int) ∧ (x28.2 : Int) < ((q.n : Nat) : Int) ∧
                 (onP q.a fun p31 =>
                  (∃ g32 : Int × SV, (w29.cell? (p31.add ((x28.2 : Int).toNat * 2)) = some (.int .i64 g32.1) ∧ w29.cell? ((p31.add ((x28.2 : Int).toNat * 2)).add 1) = some (.slice g32.2.a g32.2.n g32.2.c)) ∧
                   (withW (w29.alloc (.cells #[.int .i64 0, .slice none 0 0] 70)) fun w33 =>
                    ((((∃ u, w33.cell? (⟨w29.heap.size, 0, none⟩ : Addr) = some u) ∧ w33.frozen? (⟨w29.heap.size, 0, none⟩ : Addr) = false) ∧ ((∃ u, w33.cell? ((⟨w29.heap.size, 0, none⟩ : Addr).add 1) = some u) ∧ w33.frozen? ((⟨w29.heap.size, 0, none⟩ : Addr).add 1) = false)) ∧ (true = true) ∧
                     (withW ((w33.setCell (⟨w29.heap.size, 0, none⟩ : Addr) (.int .i64 g32.1)).setCell ((⟨w29.heap.size, 0, none⟩ : Addr).add 1) (.slice g32.2.a g32.2.n g32.2.c)) fun w34 =>
                      (∃ g35 : Int × SV, (w34.cell? (⟨w29.heap.size, 0, none⟩ : Addr) = some (.int .i64 g35.1) ∧ w34.cell? ((⟨w29.heap.size, 0, none⟩ : Addr).add 1) = some (.slice g35.2.a g35.2.n g35.2.c)) ∧
                       (c_valid_Against g35.1 g35.2 p w34 fun (x36 : Bool) w37 =>
                        (bsplit x36
                         (K 8 w37)
                         (next30 (x28.1, (IntKind.i64.wrap (x28.2 + 1))) w37)))))))))))
               (nxt x28.1 w29)))))) := by
    intro p S R w4 nxt k4 hS okS hhit hmiss
    have hb := okS.2
    refine set_extents (k4.sat hS) (by omega) fun x7 w8 h8 => ?_
    have k8 : Keep w w8 := k4.trans (Keep.whole h8.right)
    have hon := extsA_on h8.left
    have hxn := hon.1
    refine loop_i (fun (x : Int × Int) w' => ∃ i : Nat, x = (0, (i : Int)) ∧ i ≤ S.l.length ∧ Keep w8 w' ∧ ∀ j (hj : j < S.l.length), j < i → hitX M at_ S.l[j] = false) (fun x _ => S.l.length - x.2.toNat) ⟨0, rfl, by omega, Keep.refl w8, fun j _ h => by omega⟩ ?_
    rintro x w10 ⟨i, rfl, hi, k10, hall⟩
    refine bsplit_decide.2 ⟨fun hlt => ?_, fun hge => ?_⟩
    · have hlt' : i < S.l.length := by simp at hlt; omega
      obtain ⟨ad, ha, hc1, hc2⟩ := (extsOn_le (keep_le k10) hon).2 i hlt'
      have hxok := okS.1 _ (List.getElem_mem hlt')
      have hhx : hitX M at_ S.l[i] = true → ∀ w', Keep w w' → K 8 w' := fun hx => hhit (by unfold hitS; rw [List.any_eq_true.2 ⟨_, List.getElem_mem hlt', hx⟩, Bool.true_or])
      have e1 : IntKind.i64.wrap ((i : Int) + 1) = ((i + 1 : Nat) : Int) := by rw [wrap_of (by omega) (by omega)]; omega
      have hnx : ∀ w', Keep w8 w' → hitX M at_ S.l[i] = false → (∃ i_1 : Nat, ((0 : Int), IntKind.i64.wrap ((i : Int) + 1)) = (0, (i_1 : Int)) ∧ i_1 ≤ S.l.length ∧ Keep w8 w' ∧ ∀ j (hj : j < S.l.length), j < i_1 → hitX M at_ S.l[j] = false) ∧ S.l.length - (IntKind.i64.wrap ((i : Int) + 1)).toNat < S.l.length - (i : Int).toNat := fun w' kw hx => by
        refine ⟨⟨i + 1, by rw [e1], by omega, kw, fun j hj hji => ?_⟩, by rw [e1]; simp; omega⟩
        rcases Nat.lt_succ_iff_lt_or_eq.1 hji with h' | h'
        · exact hall j hj h'
        · subst h'; exact hx
      generalize S.l[i] = e at *
      unfold okE at hxok
      refine ⟨by omega, by omega, onP_i ha ⟨(e.first, e.len), ⟨hc1, hc2⟩, box2 (sat_whole w10) fun w15 k15 h15 => ?_⟩⟩
      refine ⟨e.first, (objA_cells h15).1 0, e.len, by rw [add_mk]; exact (objA_cells h15).1 1, box2 h15 fun w19 k19 h19 => ?_⟩
      have h19' : Sat (objA (some ⟨w10.heap.size, 0, none⟩) [.int .i64 e.first, .int .i64 e.len] * (objA (some ⟨w15.heap.size, 0, none⟩) [.int .i64 (IntKind.i64.wrap ((IntKind.i64.wrap (e.first + e.len)) - 1)), .int .i64 1] * whole w10)) w19 := h19.eq (by ac_rfl)
      refine ⟨e.len, by rw [add_mk]; exact (objA_cells h19').1 1, ?_⟩
      rw [add_mk]
      refine objA_store (i := 1) h19' (by simp) fun w21 h21 => ?_
      simp only [List.set_cons_succ, List.set_cons_zero] at h21
      have k21 : Keep w10 w21 := Keep.whole h21.right.right
      have kw21 : Keep w w21 := k8.trans (k10.trans k21)
      refine ⟨(e.first, if (1048576 : Int) < e.len then 1048576 else e.len), ⟨(objA_cells h21).1 0, (objA_cells h21).1 1⟩, ?_⟩
      refine xmap_written (e := ⟨e.first, if (1048576 : Int) < e.len then 1048576 else e.len⟩) (kw21.sat hM) okM hB fun w24 k24 => bsplit_iff.2 ⟨fun hw => hhx (by unfold hitX; rw [hw, Bool.true_or]) _ (kw21.trans k24), fun hw => ?_⟩
      have h24 := k24.sat h21.right
      rw [wrap_of (x := e.first + e.len) (by omega) (by omega), wrap_of (by omega) (by omega)] at h24
      refine ⟨(e.first + e.len - 1, 1), ⟨(objA_cells h24).1 0, by rw [add_mk]; exact (objA_cells h24).1 1⟩, ?_⟩
      refine xmap_written (e := ⟨e.first + e.len - 1, 1⟩) ((kw21.trans k24).sat hM) okM hB fun w27 k27 => bsplit_iff.2 ⟨fun hw2 => hhx (by unfold hitX; rw [hw2, Bool.or_true]) _ ((kw21.trans k24).trans k27), fun hw2 => ?_⟩
      exact hnx _ (k10.trans (k21.trans (k24.trans k27))) (by unfold hitX; rw [hw, hw2]; rfl)
    · obtain rfl : i = S.l.length := by simp at hge; omega
      have hno : S.l.any (hitX M at_) = false := by
        rw [List.any_eq_false]
        intro x hx
        obtain ⟨j, hj, rfl⟩ := List.getElem_of_mem hx
        simpa using hall j hj hj
      have k10' : Keep w w10 := k8.trans k10
      refine loop_i (fun (x : Int × Int) w' => ∃ i : Nat, x = (0, (i : Int)) ∧ i ≤ l.length ∧ Keep w w' ∧ ∀ j (hj : j < l.length), j < i → againstM l[j] S = false) (fun x _ => l.length - x.2.toNat) ⟨0, rfl, by omega, k10', fun j _ h => by omega⟩ ?_
      rintro x w29 ⟨i, rfl, hi, k29, hall2⟩
      refine bsplit_decide.2 ⟨fun hlt => ?_, fun hge2 => ?_⟩
      · have hlt' : i < l.length := by simp at hlt; omega
        obtain ⟨ad, d, ha, hc1, hc2, hd⟩ := (txsOn_le (keep_le k29) hq).2 i hlt'
        have hpl := hql.2 _ (List.getElem_mem hlt')
        refine ⟨by omega, by omega, onP_i ha ⟨(l[i].time, d), ⟨hc1, hc2⟩, box2 (sat_whole w29) fun w34 k34 h34 => ?_⟩⟩
        refine ⟨(l[i].time, d), ⟨(objA_cells h34).1 0, by rw [add_mk]; exact (objA_cells h34).1 1⟩, ?_⟩
        refine against_c ((k29.trans k34).sat hS) okS (putsOn_le (keep_le k34) hd) (by omega) fun w37 k37 => bsplit_iff.2 ⟨fun hw => ?_, fun hw => ?_⟩
        · refine hhit ?_ _ ((k29.trans k34).trans k37)
          unfold hitS
          rw [List.any_eq_true.2 ⟨_, List.getElem_mem hlt', hw⟩, Bool.or_true]
        · have e1 : IntKind.i64.wrap ((i : Int) + 1) = ((i + 1 : Nat) : Int) := by rw [wrap_of (by omega) (by omega)]; omega
          refine ⟨⟨i + 1, by rw [e1], by omega, (k29.trans k34).trans k37, fun j hj hji => ?_⟩, by simp only [e1]; omega⟩
          rcases Nat.lt_succ_iff_lt_or_eq.1 hji with h' | h'
          · exact hall2 j hj h'
          · subst h'; exact hw
      · obtain rfl : i = l.length := by simp at hge2; omega
        refine hmiss ?_ _ k29
        unfold hitS
        rw [hno, Bool.false_or, List.any_eq_false]
        intro x hx
        obtain ⟨j, hj, rfl⟩ := List.getElem_of_mem hx
        simpa using hall2 j hj hj
  refine loop_i (fun (x : Int × Int) w' => Keep w w' ∧ (x = (0, 0) ∨ (x = (0, 1) ∧ hitS M l at_ Sr = false) ∨ (x = (0, 2) ∧ hitS M l at_ Sr = false ∧ hitS M l at_ Ss = false))) (fun x _ => 2 - x.2.toNat) ⟨k2, .inl rfl⟩ ?_
  rintro x w4 ⟨k4, rfl | ⟨rfl, hr0⟩ | ⟨rfl, hr0, hs0⟩⟩
  · refine bsplit_decide.2 ⟨fun _ => ⟨by omega, by omega, pr, rfl, ?_⟩, fun hge => by omega⟩
    exact one pr Sr R2 w4 (fun c w29 => (Keep w w29 ∧ ((c, IntKind.i64.wrap ((0 : Int) + 1)) = (0, 0) ∨ ((c, IntKind.i64.wrap ((0 : Int) + 1)) = (0, 1) ∧ hitS M l at_ Sr = false) ∨ ((c, IntKind.i64.wrap ((0 : Int) + 1)) = (0, 2) ∧ hitS M l at_ Sr = false ∧ hitS M l at_ Ss = false))) ∧ 2 - (IntKind.i64.wrap ((0 : Int) + 1)).toNat < 2 - (0 : Int).toNat) k4 hr okr (fun h => hyes (by rw [h, Bool.true_or])) fun h w' kw => by
      rw [w01]; exact ⟨⟨kw, .inr (.inl ⟨rfl, h⟩)⟩, by omega⟩
  · refine bsplit_decide.2 ⟨fun _ => ⟨by omega, by omega, ps, rfl, ?_⟩, fun hge => by omega⟩
    exact one ps Ss R3 w4 (fun c w29 => (Keep w w29 ∧ ((c, IntKind.i64.wrap ((1 : Int) + 1)) = (0, 0) ∨ ((c, IntKind.i64.wrap ((1 : Int) + 1)) = (0, 1) ∧ hitS M l at_ Sr = false) ∨ ((c, IntKind.i64.wrap ((1 : Int) + 1)) = (0, 2) ∧ hitS M l at_ Sr = false ∧ hitS M l at_ Ss = false))) ∧ 2 - (IntKind.i64.wrap ((1 : Int) + 1)).toNat < 2 - (1 : Int).toNat) k4 hs oks (fun h => hyes (by rw [h, Bool.or_true])) fun h w' kw => by
      rw [w12]; exact ⟨⟨kw, .inr (.inr ⟨rfl, hr0, h⟩)⟩, by omega⟩
  · refine bsplit_decide.2 ⟨fun hlt => by omega, fun _ => ?_⟩
    have := hk w4 k4
    rw [hval, hr0, hs0] at this
    exact this
end Go.Proofs.YtbolgpjcmchfoaaGreat
/- Contracts: the sets of a transaction; how many make a batch. -/
namespace Go.Proofs.YtbolgpjcmchfoaaGreat
open Go Go.Vc Go.Sl Go.Mo
theorem wbuf_new {n m : Int} {R : HP} {w : World} {K : Option Addr × Int → World → Prop} (h : Sat R w) (hn : 1 ≤ n ∧ n ≤ 1048576) (hm : 0 ≤ m) (hk : ∀ p w', Sat (bufA p ⟨n, m, []⟩ * R) w' → K (p, 0) w') : c_wbuf_New n m w K := by
  refine wbuf_New_go (bsplit_decide.2 ⟨fun h0 => by omega, fun _ => bsplit_decide.2 ⟨fun h0 => by omega, fun _ => bsplit_decide.2 ⟨fun h0 => by omega, fun _ => ?_⟩⟩⟩)
  rw [withW_iff, withW_iff]
  have h1 : Sat (slmapA byteRow w.heap.size [] * R) (w.alloc (.map #[] 0)) := slmapA_new h
  have h2 : Sat (objA (some ⟨(w.alloc (.map #[] 0)).heap.size, 0, none⟩) [.int .i64 n, .int .i64 m, .map (some w.heap.size)] * (slmapA byteRow w.heap.size [] * R)) ((w.alloc (.map #[] 0)).alloc (.cells [.int .i64 n, .int .i64 m, .map (some w.heap.size)].toArray 170)) := objA_new h1
  exact hk _ _ (bufA_close (B := ⟨n, m, []⟩) h2)
theorem book_new {n : Int} {R : HP} {w : World} {K : Option Addr → World → Prop} (h : Sat R w) (hk : ∀ p w', Sat (bookA p ⟨n, 0, []⟩ * R) w' → K p w') : c_horizon_New n w K := by
  refine horizon_New_go ?_
  unfold f_horizon_New
  rw [withW_iff, withW_iff]
  have h1 : Sat (mapA w.heap.size [] * R) (w.alloc (.map #[] 0)) := mapA_new h
  have h2 : Sat (objA (some ⟨(w.alloc (.map #[] 0)).heap.size, 0, none⟩) [.int .i64 n, .int .i64 0, .map (some w.heap.size)] * (mapA w.heap.size [] * R)) ((w.alloc (.map #[] 0)).alloc (.cells [.int .i64 n, .int .i64 0, .map (some w.heap.size)].toArray 167)) := objA_new h1
  exact hk _ _ (bookA_close (B := ⟨n, 0, []⟩) h2)
theorem readsA_nil {R : HP} {w : World} (h : Sat R w) : Sat (readsA ⟨none, 0, 0⟩ [] * R) w := by
  simp only [readsA, ex_mul, mul_assoc', sat_ex, sat_lift]
  exact ⟨[], rfl, ownS_nil (by simpa [all] using h) rfl rfl⟩
theorem view_new {m b : Addr} {a : Int} {R : HP} {w : World} {K : Option Addr → World → Prop} (h : Sat R w) (hk : ∀ p w', Sat (viewA p (some m) (some b) ⟨a, ⟨64, []⟩, []⟩ * R) w' → K p w') : c_rset_New (some m) (some b) a w K := by
  refine rset_New_go (bsplit_iff.2 ⟨fun e => (by cases e), fun _ => bsplit_iff.2 ⟨fun e => (by cases e), fun _ => set_new h fun sp w2 h2 => ?_⟩⟩)
  rw [withW_iff]
  have h3 : Sat (setA sp ⟨64, []⟩ * (readsA ⟨none, 0, 0⟩ [] * R)) w2 := (readsA_nil h2).eq (by ac_rfl)
  have h4 : Sat (objA (some ⟨w2.heap.size, 0, none⟩) [.pointer (some m), .pointer (some b), .int .i64 a, .pointer sp, .slice none 0 0] * (setA sp ⟨64, []⟩ * (readsA ⟨none, 0, 0⟩ [] * R))) (w2.alloc (.cells [.pointer (some m), .pointer (some b), .int .i64 a, .pointer sp, .slice none 0 0].toArray 174)) := objA_new h3
  exact hk _ _ (viewA_close (V := ⟨a, ⟨64, []⟩, []⟩) (rs := ⟨none, 0, 0⟩) h4)
theorem view_ptr {p m b : Option Addr} {V : View} {R : HP} {w : World} (h : Sat (viewA p m b V * R) w) : ∃ a, p = some ⟨a, 0, none⟩ := by
  obtain ⟨sp, rs, h1⟩ := viewA_open h
  obtain ⟨b, t, rfl, _⟩ := objA_open h1
  exact ⟨b, rfl⟩
theorem emptySet_ok {m : Int} : SetOk ⟨m, []⟩ := ⟨by simp, by simp⟩
theorem view_set {p m b : Option Addr} {V : View} {R : HP} {w : World} {K : Option Addr → World → Prop} (h : Sat (viewA p m b V * R) w) (hl : V.set.l.length ≤ 2 ^ 29) (hk : ∀ p' w', Sat (setA p' (viewSet V) * whole w) w' → K p' w') : c_rset_View_Set p w K := by
  obtain ⟨a, rfl⟩ := view_ptr h
  obtain ⟨sp, rs, h1⟩ := viewA_open h
  refine rset_View_Set_go (set_new (sat_whole w) fun x1 w2 h2 => bsplit_iff.2 ⟨fun _ => ?_, fun e => (by cases e)⟩)
  have h1' := (Keep.whole h2.right).sat h1
  rw [onP_some, add_mk]
  refine ⟨sp, (objA_cells h1').1 3, ?_⟩
  refine set_extents h1'.right (by omega) fun x5 w6 h6 => ?_
  have h6' : Sat (setA x1 ⟨64, []⟩ * (extsA x5 V.set.l * whole w)) w6 := (Sat.frame h6 h2).eq (by ac_rfl)
  refine set_add h6' emptySet_ok (extsA_on h6'.right.left) (by simp; omega) fun w8 h8 => ?_
  have : Sat (extsA x5 V.set.l * (setA x1 (viewSet V) * whole w)) w8 := h8.eq (by unfold viewSet; ac_rfl)
  exact hk _ _ this.right
def lbaOk (k : Int) : Prop := 0 ≤ k ∧ k < 1048576
theorem buf_set {p : Option Addr} {B : Buf} {R : HP} {w : World} {K : Option Addr → World → Prop} (h : Sat (bufA p B * R) w) (ok : BufOk B) (hlb : ∀ q ∈ B.data, lbaOk q.1) (hl : B.data.length ≤ 2 ^ 20)
    (hk : ∀ p' w', SetOk (bufSet B) → Sat (setA p' (bufSet B) * whole w) w' → K p' w') : c_wbuf_Buf_Set p w K := by
  refine wbuf_Buf_Set_go (buf_puts h ok fun x1 w2 h2 => ?_)
  have hon := putsA_on h2.left
  have hxn := hon.1
  have hpl : B.puts.length = B.data.length := by simp [Buf.puts, sortI_length]
  have hpo : ∀ x ∈ B.puts, lbaOk x.lba := fun x hx => by
    obtain ⟨k, hk', rfl⟩ := List.mem_map.1 hx
    have : k ∈ B.data.map Prod.fst := (sortI_perm _).mem_iff.1 hk'
    obtain ⟨q, hq, rfl⟩ := List.mem_map.1 this
    exact hlb q hq
  have hbs : bufSet B = B.puts.foldl (fun S x => (S.add [⟨x.lba, 1⟩]).1) ⟨(B.puts.length : Nat), []⟩ := rfl
  generalize B.puts = ps at *
  rw [hxn]
  refine set_new h2 fun x3 w4 h4 => ?_
  have hlen : ∀ i, i ≤ ps.length → SetOk ((ps.take i).foldl (fun S x => (S.add [⟨x.lba, 1⟩]).1) ⟨(ps.length : Nat), []⟩) ∧ ((ps.take i).foldl (fun (S : XSet) x => (S.add [⟨x.lba, 1⟩]).1) ⟨(ps.length : Nat), []⟩).l.length ≤ i := by
    intro i
    induction i with
    | zero => intro _; exact ⟨emptySet_ok, by simp⟩
    | succ i ih =>
      intro hi
      obtain ⟨h1, h2⟩ := ih (by omega)
      rw [List.take_succ_eq_append_getElem (by omega), List.foldl_append]
      simp only [List.foldl_cons, List.foldl_nil]
      refine ⟨set_add_ok h1 (by simp; omega), ?_⟩
      generalize ((ps.take i).foldl (fun (S : XSet) x => (S.add [⟨x.lba, 1⟩]).1) ⟨(ps.length : Nat), []⟩) = S at h1 h2 ⊢
      unfold XSet.add
      split
      · exact Nat.le_succ_of_le h2
      · split
        · exact Nat.le_succ_of_le h2
        · split
          · exact Nat.le_succ_of_le h2
          · have := joinM_length (S.l ++ [⟨ps[i].lba, 1⟩])
            simp only [List.length_append, List.length_singleton] at this
            simp only; omega
  refine loop_i (fun (x : Int) w' => ∃ i : Nat, x = i ∧ i ≤ ps.length ∧ Sat (setA x3 ((ps.take i).foldl (fun S x => (S.add [⟨x.lba, 1⟩]).1) ⟨(ps.length : Nat), []⟩) * (putsA x1 ps * whole w)) w') (fun x _ => ps.length - x.toNat) ⟨0, rfl, by omega, h4⟩ ?_
  rintro x w6 ⟨i, rfl, hi, hw⟩
  refine bsplit_decide.2 ⟨fun hlt => ?_, fun hge => ?_⟩
  · have hlt' : i < ps.length := by omega
    obtain ⟨ad, d, ha, hc1, hc2, _⟩ := (putsA_on hw.right.left).2 i hlt'
    refine ⟨by omega, by omega, onP_i ha ⟨(ps[i].lba, d), ⟨hc1, hc2⟩, box2 hw fun w11 k11 h11 => ⟨ps[i].lba, (objA_cells h11).1 0, ?_⟩⟩⟩
    rw [withW_iff]
    have h12 := h11.right.alloc (.cells #[.int .i64 ps[i].lba, .int .i64 1] 56)
    have hc0 := h12.cell 0
    have hc01 := h12.cell 1
    have h13 := h12.right
    generalize w11.heap.size = bn at hc0 hc01 ⊢
    have hex : extsOn (hp (w11.alloc (.cells #[.int .i64 ps[i].lba, .int .i64 1] 56))) ⟨some ⟨bn, 0, none⟩, 1, 1⟩ [⟨ps[i].lba, 1⟩] := ⟨rfl, fun j hj => by
      obtain rfl : j = 0 := by simpa using hj
      exact ⟨⟨bn, 0, none⟩, rfl, hc0, hc01⟩⟩
    obtain ⟨o1, o2⟩ := hlen i hi
    refine set_add h13 o1 hex (by simp; omega) fun w15 h15 => ?_
    have e1 : IntKind.i64.wrap ((i : Int) + 1) = ((i + 1 : Nat) : Int) := by rw [wrap_of (by omega) (by omega)]; omega
    refine ⟨⟨i + 1, e1, by omega, ?_⟩, by rw [e1]; simp; omega⟩
    rw [List.take_succ_eq_append_getElem hlt', List.foldl_append]
    exact h15
  · obtain rfl : i = ps.length := by omega
    rw [List.take_length] at hw
    have : Sat (putsA x1 ps * (setA x3 (bufSet B) * whole w)) w6 := hw.eq (by rw [hbs]; ac_rfl)
    refine hk _ _ ?_ this.right
    rw [hbs]
    have := (hlen ps.length (Nat.le_refl _)).1
    rwa [List.take_length] at this
theorem form_c {s : SV} {l : List Tx} {w : World} {K : Int → World → Prop} (hl : txsOn (hp w) s l) (hn : l.length ≤ 2 ^ 20 ∧ ∀ t ∈ l, t.puts.length ≤ 2 ^ 20) (hk : ∀ w', Keep w w' → K (formL l 0 0) w') : c_batch_Form s w K := by
  refine batch_Form_go ?_
  have hsn := hl.1
  refine loop_i (fun (x : Int × Int × Int) w' => ∃ i : Nat, x.2.2 = i ∧ i ≤ l.length ∧ Keep w w' ∧ (0 ≤ x.1 ∧ x.1 ≤ i * 2 ^ 20) ∧ (0 ≤ x.2.1 ∧ x.2.1 ≤ i) ∧ formL l 0 0 = formL (l.drop i) x.1 x.2.1) (fun x _ => l.length - x.2.2.toNat) ⟨0, rfl, by omega, Keep.refl w, by simp, by simp, rfl⟩ ?_
  rintro ⟨a, n, x⟩ w2 ⟨i, hx, hi, kw, ha, hnn, hf⟩
  simp only at hx ha hnn hf; subst hx
  dsimp only
  refine bsplit_decide.2 ⟨fun hlt => ?_, fun hge => ?_⟩
  · have hlt' : i < l.length := by simp at hlt; omega
    obtain ⟨ad, d, had, hc1, hc2, hd⟩ := (txsOn_le (keep_le kw) hl).2 i hlt'
    have hdn := hd.1
    have hpl := hn.2 _ (List.getElem_mem hlt')
    have hdrop : l.drop i = l[i] :: l.drop (i + 1) := List.drop_eq_getElem_cons hlt'
    rw [hdrop] at hf
    simp only [formL] at hf
    refine ⟨by omega, by omega, onP_i had ⟨(l[i].time, d), ⟨hc1, hc2⟩, box2 (sat_whole w2) fun w7 k7 h7 => ?_⟩⟩
    have kk := kw.trans k7
    have hs1 := (objA_cells h7).1 1
    have next : ¬ (8 ≤ n ∨ (0 < n ∧ 32 - a < (l[i].puts.length : Nat))) → ∃ s9 : SV, (w7.cell? ((⟨w2.heap.size, 0, none⟩ : Addr).add 1) = some (.slice s9.a s9.n s9.c)) ∧ (withI (IntKind.i64.wrap (a + ((s9.n : Nat) : Int))) fun i10 => withI (IntKind.i64.wrap (n + 1)) fun i11 =>
        (∃ i_1 : Nat, IntKind.i64.wrap ((i : Int) + 1) = i_1 ∧ i_1 ≤ l.length ∧ Keep w w7 ∧ (0 ≤ i10 ∧ i10 ≤ i_1 * 2 ^ 20) ∧ (0 ≤ i11 ∧ i11 ≤ i_1) ∧ formL l 0 0 = formL (l.drop i_1) i10 i11) ∧ l.length - (IntKind.i64.wrap ((i : Int) + 1)).toNat < l.length - (i : Int).toNat) := by
      intro hno
      rw [if_neg hno] at hf
      refine ⟨d, by rw [add_mk]; exact hs1, ?_⟩
      rw [withI_iff, withI_iff, hdn]
      have e1 : IntKind.i64.wrap ((i : Int) + 1) = ((i + 1 : Nat) : Int) := by rw [wrap_of (by omega) (by omega)]; omega
      rw [e1, wrap_of (x := a + _) (by omega) (by omega), wrap_of (x := n + 1) (by omega) (by omega)]
      exact ⟨⟨i + 1, rfl, by omega, kk, by omega, by omega, hf⟩, by simp; omega⟩
    refine bsplit_decide.2 ⟨fun h8 => ?_, fun h8 => bsplit_decide.2 ⟨fun h0 => ⟨d, by rw [add_mk]; exact hs1, ?_⟩, fun h0 => next (by omega)⟩⟩
    · rw [if_pos (.inl h8)] at hf
      have := hk _ kk
      rw [hf] at this; exact this
    · rw [hdn, wrap_of (by omega) (by omega)]
      refine bsplit_decide.2 ⟨fun h32 => ?_, fun h32 => next (by omega)⟩
      rw [if_pos (.inr ⟨h0, h32⟩)] at hf
      have := hk _ kk
      rw [hf] at this; exact this
  · obtain rfl : i = l.length := by simp at hge; omega
    rw [List.drop_length] at hf
    have := hk _ kw
    rw [hf] at this; exact this
end Go.Proofs.YtbolgpjcmchfoaaGreat
/- Contracts of the manager: one begins, opens, writes, ends. -/
namespace Go.Proofs.YtbolgpjcmchfoaaGreat
open Go Go.Vc Go.Sl Go.Mo
theorem put_same {α : Type} {l : List (Int × α)} {k : Int} {v : α} (h : lkp l k = some v) : put l k v = l := by
  induction l with
  | nil => cases h
  | cons p r ih =>
    obtain ⟨i, x⟩ := p
    simp only [lkp] at h
    simp only [put]
    by_cases e : k = i
    · rw [if_pos e] at h ⊢; cases h; rfl
    · rw [if_neg e] at h ⊢; rw [ih h]
def ptrs (xs : Prs) : List (Int × Value) := on2 (fun x : Option Addr × Trn => .pointer x.1) xs
/-- The manager without one transaction. -/
def mgrH (p mp bk : Option Addr) (r : Nat) (qs : SV) (xs : Prs) (M : Mgr) (i : Int) : HP :=
  objA p (mcells mp bk r qs M) * (xmapA mp M.m * (bookA bk M.book * (mapA r (ptrs xs) * (Sl.all (del xs i) (fun x => trA mp x.2.1 x.2.2) * ownS 1 qs (M.queue.map intv)))))
theorem mgr_focus {p mp bk tp : Option Addr} {r : Nat} {qs : SV} {xs : Prs} {M : Mgr} {i : Int} {T : Trn} (h : lkp xs i = some (tp, T)) : mgrO p mp bk r qs xs M = trA mp tp T * mgrH p mp bk r qs xs M i := by
  unfold mgrO mgrH ptrs
  rw [all_take h]
  ac_rfl
theorem mgr_back {p mp bk tp : Option Addr} {r : Nat} {qs : SV} {xs : Prs} {M : Mgr} {i : Int} {T T' : Trn} (h : lkp xs i = some (tp, T)) : mgrO p mp bk r qs (put xs i (tp, T')) M = trA mp tp T' * mgrH p mp bk r qs xs M i := by
  have e : on2 (fun x : Option Addr × Trn => Value.pointer x.1) (put xs i (tp, T')) = ptrs xs := by
    rw [← put_on2 (fun x : Option Addr × Trn => Value.pointer x.1)]
    exact put_same (by rw [lkp_on2, h]; rfl)
  unfold mgrO mgrH
  rw [e, all_put]
  ac_rfl
theorem mgr_ptr {p mp bk : Option Addr} {r : Nat} {qs : SV} {xs : Prs} {M : Mgr} {R : HP} {w : World} (h : Sat (mgrO p mp bk r qs xs M * R) w) : ∃ a b c, p = some ⟨a, 0, none⟩ ∧ mp = some ⟨b, 0, none⟩ ∧ bk = some ⟨c, 0, none⟩ := by
  unfold mgrO at h
  obtain ⟨a, ta, rfl, _⟩ := objA_open (h.eq (mul_assoc' _ _ _))
  obtain ⟨b, rfl⟩ := xmap_ptr (M := M.m) (R := objA (some ⟨a, 0, none⟩) (mcells mp bk r qs M) * (bookA bk M.book * (mapA r (on2 (fun x => .pointer x.1) xs) * (Sl.all xs (fun x => trA mp x.2.1 x.2.2) * (ownS 1 qs (M.queue.map intv) * R))))) (h.eq (by ac_rfl))
  obtain ⟨c, rfl⟩ := book_ptr (B := M.book) (R := objA (some ⟨a, 0, none⟩) (mcells (some ⟨b, 0, none⟩) bk r qs M) * (xmapA (some ⟨b, 0, none⟩) M.m * (mapA r (on2 (fun x => .pointer x.1) xs) * (Sl.all xs (fun x => trA (some ⟨b, 0, none⟩) x.2.1 x.2.2) * (ownS 1 qs (M.queue.map intv) * R))))) (h.eq (by ac_rfl))
  exact ⟨a, b, c, rfl, rfl, rfl⟩
theorem mgone_c {a b : Nat} {bk : Option Addr} {r : Nat} {qs : SV} {M : Mgr} {R : HP} {w : World} {K : Bool → World → Prop} (h : Sat (objA (some ⟨a, 0, none⟩) (mcells (some ⟨b, 0, none⟩) bk r qs M) * R) w) (hk : K false w) : c_txn_Manager_gone (some ⟨a, 0, none⟩) w K := by
  refine txn_Manager_gone_go (bsplit_iff.2 ⟨fun e => (by cases e), fun _ => ?_⟩)
  rw [onP_some]
  exact ⟨some ⟨b, 0, none⟩, (objA_cells h).1 0, hk⟩
theorem open_c {p mp bk : Option Addr} {r : Nat} {qs : SV} {xs : Prs} {M : Mgr} {i : Int} {R : HP} {w : World} {K : Option Addr → World → Prop} (h : Sat (mgrO p mp bk r qs xs M * R) w) (hx : on2 Prod.snd xs = M.all)
    (hyes : ∀ a T, lkp xs i = some (some ⟨a, 0, none⟩, T) → M.opn i = some T → T.state = 1 → K (some ⟨a, 0, none⟩) w) (hno : M.opn i = none → K none w) : c_txn_Manager_open p i w K := by
  obtain ⟨a, b, c, rfl, rfl, rfl⟩ := mgr_ptr h
  have h1 : Sat (objA (some ⟨a, 0, none⟩) (mcells (some ⟨b, 0, none⟩) (some ⟨c, 0, none⟩) r qs M) * (mapA r (ptrs xs) * (Sl.all xs (fun x => trA (some ⟨b, 0, none⟩) x.2.1 x.2.2) * (xmapA (some ⟨b, 0, none⟩) M.m * (bookA (some ⟨c, 0, none⟩) M.book * (ownS 1 qs (M.queue.map intv) * R)))))) w := h.eq (by unfold mgrO ptrs; ac_rfl)
  refine txn_Manager_open_go (mgone_c h1 ?_)
  refine bsplit_iff.2 ⟨fun e => (by cases e), fun _ => ?_⟩
  rw [onP_some, add_mk]
  refine ⟨some r, (objA_cells h1).1 2, rfl, ?_⟩
  rw [onM_some]
  obtain ⟨es, hcl, hf, _⟩ := mapA_get h1.right
  have hop : M.opn i = match (lkp xs i).map Prod.snd with | some T => if T.state = 1 then some T else none | none => none := by unfold Mgr.opn; rw [← hx, lkp_on2]; rfl
  have hfe : findE es i = (lkp xs i).map fun x => .pointer x.1 := by rw [hf]; unfold ptrs; rw [lkp_on2]
  cases e : lkp xs i with
  | none =>
    refine ⟨es, hcl, none, by rw [hfe, e]; rfl, ?_⟩
    rw [hfe, e]
    exact hno (by rw [hop, e]; rfl)
  | some x =>
    obtain ⟨tp, T⟩ := x
    rw [all_take e] at h1
    obtain ⟨bp, vp, h2⟩ := trA_open (h1.eq (by ac_rfl : _ = trA (some ⟨b, 0, none⟩) tp T * (objA (some ⟨a, 0, none⟩) (mcells (some ⟨b, 0, none⟩) (some ⟨c, 0, none⟩) r qs M) * (mapA r (ptrs xs) * (Sl.all (del xs i) (fun x => trA (some ⟨b, 0, none⟩) x.2.1 x.2.2) * (xmapA (some ⟨b, 0, none⟩) M.m * (bookA (some ⟨c, 0, none⟩) M.book * (ownS 1 qs (M.queue.map intv) * R))))))))
    obtain ⟨d, t, rfl, _⟩ := objA_open h2
    refine ⟨es, hcl, some ⟨d, 0, none⟩, by rw [hfe, e]; rfl, ?_⟩
    rw [hfe, e]
    refine bsplit_iff.2 ⟨fun e => (by cases e), fun _ => ?_⟩
    rw [onP_some]
    refine ⟨T.state, (objA_cells h2).1 0, bsplit_iff.2 ⟨fun hs => ?_, fun hs => ?_⟩⟩
    · exact hno (by rw [hop, e]; simp only [Option.map_some]; rw [if_neg (by simpa using hs)])
    · have hs' : T.state = 1 := by simpa using hs
      exact hyes d T e (by rw [hop, e]; simp only [Option.map_some]; rw [if_pos hs']) hs'
theorem mgr_new {n last : Int} {R : HP} {w : World} {K : Option Addr × Int → World → Prop} (h : Sat R w) (hn : 1 ≤ n ∧ n ≤ 1048576) (hl : 0 ≤ last ∧ last ≤ 1099511627776) (hk : ∀ a w', Sat (mgrA (some ⟨a, 0, none⟩) (Mgr.new n last) * R) w' → K (some ⟨a, 0, none⟩, 0) w') : c_txn_New n last w K := by
  refine txn_New_go (xmap_new h hn fun mp w2 h2 => ?_)
  refine bsplit_iff.2 ⟨fun e => (by cases e), fun _ => bsplit_decide.2 ⟨fun e => by omega, fun _ => bsplit_decide.2 ⟨fun e => by omega, fun _ => book_new h2 fun bk w4 h4 => ?_⟩⟩⟩
  rw [withW_iff, withW_iff]
  have h5 : Sat (mapA w4.heap.size [] * (bookA bk ⟨16, 0, []⟩ * (xmapA mp ⟨n, [], 0⟩ * R))) (w4.alloc (.map #[] 0)) := mapA_new h4
  have h6 := objA_new (t := 106) (vs := mcells mp bk w4.heap.size ⟨none, 0, 0⟩ (Mgr.new n last)) h5
  refine hk _ _ (mgrA_close (xs := []) (mp := mp) (bk := bk) (r := w4.heap.size) (qs := ⟨none, 0, 0⟩) ?_ rfl)
  have h7 : Sat (ownS 1 ⟨none, 0, 0⟩ [] * _) _ := ownS_nil (s := ⟨none, 0, 0⟩) (sz := 1) h6 rfl rfl
  refine h7.eq ?_
  unfold mgrO Mgr.new
  simp only [on2, List.map_nil, Sl.all, one_mul']
  ac_rfl
theorem mgr_write {p : Option Addr} {M : Mgr} {i : Int} {s : SV} {l : List Put} {R : HP} {w : World} {K : Int → World → Prop} (h : Sat (mgrA p M * R) w) (hl : ∀ w', Sat R w' → putsOn (hp w') s l) (hn : l.length ≤ 2 ^ 40) (hb : ∀ T, M.opn i = some T → T.buf.data.length ≤ 2 ^ 40)
    (hk : ∀ w', Sat (mgrA p (M.write i l).1 * R) w' → K (M.write i l).2 w') : c_txn_Manager_Write p i s w K := by
  obtain ⟨mp, bk, r, qs, xs, hx, h1⟩ := mgrA_open h
  refine txn_Manager_Write_go (open_c h1 hx (fun d T hlk hop hst => ?_) fun hop => ?_)
  · have hw : M.write i l = ({ M with all := put M.all i { T with buf := (T.buf.write l).1 } }, (T.buf.write l).2) := by unfold Mgr.write; rw [hop]
    rw [hw] at hk
    refine bsplit_iff.2 ⟨fun e => (by cases e), fun _ => ?_⟩
    rw [onP_some, add_mk]
    rw [mgr_focus hlk] at h1
    obtain ⟨bp, vp, h2⟩ := trA_open (h1.eq (mul_assoc' _ _ _))
    refine ⟨bp, (objA_cells h2).1 4, ?_⟩
    refine buf_write (h2.eq (by ac_rfl : _ = bufA bp T.buf * ((objA (some ⟨d, 0, none⟩) [.int .i64 T.state, .int .i64 T.time, .int .i64 T.code, .int .i64 T.at_, .pointer bp, .pointer vp] * (viewA vp mp bp T.view * mgrH p mp bk r qs xs M i)) * R))) (fun w' hw' => hl w' hw'.right) hn (hb T hop) fun w' h' => hk _ ?_
    refine mgrA_close (M := { M with all := put M.all i { T with buf := (T.buf.write l).1 } }) (mp := mp) (bk := bk) (r := r) (qs := qs) (xs := put xs i (some ⟨d, 0, none⟩, { T with buf := (T.buf.write l).1 })) ?_ ?_
    · rw [mgr_back hlk]
      have h3 : Sat (objA (some ⟨d, 0, none⟩) [.int .i64 T.state, .int .i64 T.time, .int .i64 T.code, .int .i64 T.at_, .pointer bp, .pointer vp] * (bufA bp (T.buf.write l).1 * (viewA vp mp bp T.view * (mgrH p mp bk r qs xs M i * R)))) w' := h'.eq (by ac_rfl)
      have h4 := trA_close (T := { T with buf := (T.buf.write l).1 }) h3
      exact h4.eq (by unfold mgrH mcells; ac_rfl)
    · rw [← put_on2, hx]
  · have hw : M.write i l = (M, 5) := by unfold Mgr.write; rw [hop]
    rw [hw] at hk
    exact hk _ h
end Go.Proofs.YtbolgpjcmchfoaaGreat
/- Contracts of the manager: one begins, one ends; what became of it. -/
namespace Go.Proofs.YtbolgpjcmchfoaaGreat
open Go Go.Vc Go.Sl Go.Mo
theorem objA_only {p : Option Addr} {vs : List Value} {R : HP} {w : World} (h : Sat (objA p vs * R) w) : Sat (objA p vs * 1) w := h.left.eq (mul_one' _).symm
theorem mgr_begin {p : Option Addr} {M : Mgr} {R : HP} {w : World} {K : Int × Int → World → Prop} (h : Sat (mgrA p M * R) w) (hbl : 1 ≤ M.m.blocks ∧ M.m.blocks ≤ 1048576) (okb : BookOk M.book) (hl : 0 ≤ M.book.last ∧ M.book.last ≤ 2 ^ 40)
    (hk : ∀ w', Sat (mgrA p M.begin.1 * R) w' → K M.begin.2 w') : c_txn_Manager_Begin p w K := by
  obtain ⟨mp, bk, r, qs, xs, hx, h1⟩ := mgrA_open h
  obtain ⟨a, b, c, rfl, rfl, rfl⟩ := mgr_ptr h1
  have h2 : Sat (objA (some ⟨a, 0, none⟩) (mcells (some ⟨b, 0, none⟩) (some ⟨c, 0, none⟩) r qs M) * (bookA (some ⟨c, 0, none⟩) M.book * (xmapA (some ⟨b, 0, none⟩) M.m * (mapA r (ptrs xs) * (Sl.all xs (fun x => trA (some ⟨b, 0, none⟩) x.2.1 x.2.2) * (ownS 1 qs (M.queue.map intv) * R)))))) w := h1.eq (by unfold mgrO ptrs; ac_rfl)
  refine txn_Manager_Begin_go (mgone_c h2 (bsplit_iff.2 ⟨fun e => (by cases e), fun _ => ?_⟩))
  rw [withW_iff]
  have h3 := h2.drew
  obtain ⟨S, hS⟩ : ∃ S : World → Prop, S = fun w' => Sat (objA (some ⟨a, 0, none⟩) (mcells (some ⟨b, 0, none⟩) (some ⟨c, 0, none⟩) r qs M) * 1) w' := ⟨_, rfl⟩
  have toS : ∀ (X : HP) w', Sat (objA (some ⟨a, 0, none⟩) (mcells (some ⟨b, 0, none⟩) (some ⟨c, 0, none⟩) r qs M) * X) w' → S w' := fun X w' hw => by rw [hS]; exact objA_only hw
  have rd : ∀ w' i, S w' → w'.cell? ⟨a, i, none⟩ = (mcells (some ⟨b, 0, none⟩) (some ⟨c, 0, none⟩) r qs M)[i]? := fun w' i hw => by rw [hS] at hw; exact (objA_cells hw).1 i
  refine ⟨S, toS _ _ h3, ?_⟩
  simp only [onP_some, add_mk, Nat.zero_add]
  refine ⟨some ⟨c, 0, none⟩, fun w' hw => rd w' 1 hw, M.last, fun w' hw => rd w' 7 hw, ?_⟩
  refine book_open (h3.eq (by ac_rfl : _ = bookA (some ⟨c, 0, none⟩) M.book * (objA (some ⟨a, 0, none⟩) (mcells (some ⟨b, 0, none⟩) (some ⟨c, 0, none⟩) r qs M) * (xmapA (some ⟨b, 0, none⟩) M.m * (mapA r (ptrs xs) * (Sl.all xs (fun x => trA (some ⟨b, 0, none⟩) x.2.1 x.2.2) * (ownS 1 qs (M.queue.map intv) * R))))))) okb hl fun w12 h12 => ?_
  have h12' : Sat (objA (some ⟨a, 0, none⟩) (mcells (some ⟨b, 0, none⟩) (some ⟨c, 0, none⟩) r qs M) * (bookA (some ⟨c, 0, none⟩) (M.book.open M.last).1 * (xmapA (some ⟨b, 0, none⟩) M.m * (mapA r (ptrs xs) * (Sl.all xs (fun x => trA (some ⟨b, 0, none⟩) x.2.1 x.2.2) * (ownS 1 qs (M.queue.map intv) * R)))))) w12 := h12.eq (by ac_rfl)
  refine ⟨toS _ _ h12', bsplit_iff.2 ⟨fun he => ?_, fun he => ?_⟩⟩
  · have he' : ¬ (M.book.open M.last).2.2 = 0 := by simpa using he
    have hb : M.begin = (M, (0, (M.book.open M.last).2.2)) := by unfold Mgr.begin; rw [if_neg he']
    have hbo : (M.book.open M.last).1 = M.book := by
      revert he'
      unfold Book.open
      split
      · intro _; rfl
      · split
        · intro _; rfl
        · intro h; exact absurd rfl h
    rw [hb] at hk
    rw [hbo] at h12'
    exact hk _ (mgrA_close (h12'.eq (by unfold mgrO ptrs; ac_rfl)) hx)
  have he' : (M.book.open M.last).2.2 = 0 := by simpa using he
  have hb : M.begin = ({ M with book := (M.book.open M.last).1, all := put M.all (M.book.open M.last).2.1 (freshT M) }, ((M.book.open M.last).2.1, 0)) := by unfold Mgr.begin; rw [if_pos he']
  rw [hb] at hk
  refine ⟨some ⟨b, 0, none⟩, rd _ 0 (toS _ _ h12'), ?_⟩
  obtain ⟨r', hxm⟩ := xmapA_open (h12'.eq (by ac_rfl : _ = xmapA (some ⟨b, 0, none⟩) M.m * (objA (some ⟨a, 0, none⟩) (mcells (some ⟨b, 0, none⟩) (some ⟨c, 0, none⟩) r qs M) * (bookA (some ⟨c, 0, none⟩) (M.book.open M.last).1 * (mapA r (ptrs xs) * (Sl.all xs (fun x => trA (some ⟨b, 0, none⟩) x.2.1 x.2.2) * (ownS 1 qs (M.queue.map intv) * R)))))))
  refine blocks_some ((objA_cells hxm).1 0) ?_
  refine wbuf_new h12' hbl (by omega) fun bp w18 h18 => ?_
  rw [withW_iff]
  have h19 := h18.drew
  have h19' : Sat (objA (some ⟨a, 0, none⟩) (mcells (some ⟨b, 0, none⟩) (some ⟨c, 0, none⟩) r qs M) * _) w18.drew := h19.eq (mul_comm' _ _ |>.trans (mul_assoc' _ _ _))
  refine ⟨S, toS _ _ h19', some r, fun w' hw => rd w' 2 hw, M.last, fun w' hw => rd w' 7 hw, some ⟨b, 0, none⟩, fun w' hw => rd w' 0 hw, M.last, fun w' hw => rd w' 7 hw, ?_⟩
  obtain ⟨bb, rfl⟩ := buf_ptr h19
  refine view_new h19 fun vp w34 h34 => ?_
  have h34' : Sat (objA (some ⟨a, 0, none⟩) (mcells (some ⟨b, 0, none⟩) (some ⟨c, 0, none⟩) r qs M) * (bufA (some ⟨bb, 0, none⟩) ⟨M.m.blocks, 16, []⟩ * (viewA vp (some ⟨b, 0, none⟩) (some ⟨bb, 0, none⟩) ⟨M.last, ⟨64, []⟩, []⟩ * (bookA (some ⟨c, 0, none⟩) (M.book.open M.last).1 * (xmapA (some ⟨b, 0, none⟩) M.m * (mapA r (ptrs xs) * (Sl.all xs (fun x => trA (some ⟨b, 0, none⟩) x.2.1 x.2.2) * (ownS 1 qs (M.queue.map intv) * R)))))))) w34 := h34.eq (by ac_rfl)
  refine ⟨toS _ _ h34', ?_⟩
  rw [withW_iff]
  have h35 := objA_new (t := 115) (vs := [.int .i64 1, .int .i64 0, .int .i64 0, .int .i64 M.last, .pointer (some ⟨bb, 0, none⟩), .pointer vp]) (h34'.eq (by ac_rfl : _ = bufA (some ⟨bb, 0, none⟩) (freshT M).buf * (viewA vp (some ⟨b, 0, none⟩) (some ⟨bb, 0, none⟩) (freshT M).view * (objA (some ⟨a, 0, none⟩) (mcells (some ⟨b, 0, none⟩) (some ⟨c, 0, none⟩) r qs M) * (bookA (some ⟨c, 0, none⟩) (M.book.open M.last).1 * (xmapA (some ⟨b, 0, none⟩) M.m * (mapA r (ptrs xs) * (Sl.all xs (fun x => trA (some ⟨b, 0, none⟩) x.2.1 x.2.2) * (ownS 1 qs (M.queue.map intv) * R)))))))))
  have h36 := trA_close (T := freshT M) h35
  change Sat _ (w34.alloc (.cells #[.int .i64 1, .int .i64 0, .int .i64 0, .int .i64 M.last, .pointer (some ⟨bb, 0, none⟩), .pointer vp] 115)) at h36
  generalize w34.alloc (.cells #[.int .i64 1, .int .i64 0, .int .i64 0, .int .i64 M.last, .pointer (some ⟨bb, 0, none⟩), .pointer vp] 115) = w35 at h36 ⊢
  generalize w34.heap.size = tb at h36 ⊢
  have h36' : Sat (objA (some ⟨a, 0, none⟩) (mcells (some ⟨b, 0, none⟩) (some ⟨c, 0, none⟩) r qs M) * (trA (some ⟨b, 0, none⟩) (some ⟨tb, 0, none⟩) (freshT M) * (bookA (some ⟨c, 0, none⟩) (M.book.open M.last).1 * (xmapA (some ⟨b, 0, none⟩) M.m * (mapA r (ptrs xs) * (Sl.all xs (fun x => trA (some ⟨b, 0, none⟩) x.2.1 x.2.2) * (ownS 1 qs (M.queue.map intv) * R))))))) w35 := h36.eq (by ac_rfl)
  refine ⟨toS _ _ h36', trivial, ?_⟩
  rw [onM_some]
  obtain ⟨es, cl, hm, _, h37⟩ := mapA_put (h36'.eq (by ac_rfl : _ = mapA r (ptrs xs) * (objA (some ⟨a, 0, none⟩) (mcells (some ⟨b, 0, none⟩) (some ⟨c, 0, none⟩) r qs M) * (trA (some ⟨b, 0, none⟩) (some ⟨tb, 0, none⟩) (freshT M) * (bookA (some ⟨c, 0, none⟩) (M.book.open M.last).1 * (xmapA (some ⟨b, 0, none⟩) M.m * (Sl.all xs (fun x => trA (some ⟨b, 0, none⟩) x.2.1 x.2.2) * (ownS 1 qs (M.queue.map intv) * R)))))))) (M.book.open M.last).2.1 (.pointer (some ⟨tb, 0, none⟩))
  refine ⟨es, cl, hm, gen_w h37 fun w39 h39 => hk _ ?_⟩
  generalize (M.book.open M.last).2.1 = i at h39 ⊢
  refine mgrA_close (M := { M with book := (M.book.open M.last).1, all := put M.all i (freshT M) }) (mp := some ⟨b, 0, none⟩) (bk := some ⟨c, 0, none⟩) (r := r) (qs := qs) (xs := put xs i (some ⟨tb, 0, none⟩, freshT M)) ?_ (by rw [← put_on2, hx])
  have e1 : ptrs (put xs i (some ⟨tb, 0, none⟩, freshT M)) = put (ptrs xs) i (.pointer (some ⟨tb, 0, none⟩)) := by
    unfold ptrs
    rw [← put_on2 (fun x : Option Addr × Trn => Value.pointer x.1) xs i (some ⟨tb, 0, none⟩, freshT M)]
  have h40 : Sat (Sl.all xs (fun x => trA (some ⟨b, 0, none⟩) x.2.1 x.2.2) * (mapA r (put (ptrs xs) i (.pointer (some ⟨tb, 0, none⟩))) * (objA (some ⟨a, 0, none⟩) (mcells (some ⟨b, 0, none⟩) (some ⟨c, 0, none⟩) r qs M) * (trA (some ⟨b, 0, none⟩) (some ⟨tb, 0, none⟩) (freshT M) * (bookA (some ⟨c, 0, none⟩) (M.book.open M.last).1 * (xmapA (some ⟨b, 0, none⟩) M.m * (ownS 1 qs (M.queue.map intv) * R))))))) w39 := h39.eq (by ac_rfl)
  refine (Sat.all_del h40 i).eq ?_
  unfold mgrO
  rw [all_put]
  have e2 : on2 (fun x : Option Addr × Trn => Value.pointer x.1) (put xs i (some ⟨tb, 0, none⟩, freshT M)) = put (ptrs xs) i (.pointer (some ⟨tb, 0, none⟩)) := e1
  rw [e2]
  unfold mcells
  ac_rfl
theorem mgr_end {p mp bk : Option Addr} {r : Nat} {qs : SV} {xs : Prs} {M : Mgr} {i st code : Int} {R : HP} {w : World} {K : Unit → World → Prop} (h : Sat (mgrO p mp bk r qs xs M * R) w) (hx : on2 Prod.snd xs = M.all) {T : Trn} {tp : Option Addr} (hlk : lkp xs i = some (tp, T))
    (hk : ∀ w' xs', on2 Prod.snd xs' = (M.end_ i st code).all → Sat (mgrO p mp bk r qs xs' (M.end_ i st code) * R) w' → K () w') : c_txn_Manager_end p i st code w K := by
  obtain ⟨a, b, c, rfl, rfl, rfl⟩ := mgr_ptr h
  have hall : lkp M.all i = some T := by rw [← hx, lkp_on2, hlk]; rfl
  have hend : M.end_ i st code = { M with all := put M.all i { T with state := st, code := code, time := if st = 4 then 0 else T.time }, book := (M.book.close i).1 } := by unfold Mgr.end_; rw [hall]
  rw [hend] at hk
  rw [mgr_focus hlk] at h
  obtain ⟨bp, vp, h1⟩ := trA_open (h.eq (mul_assoc' _ _ _))
  obtain ⟨d, td, rfl, _⟩ := objA_open h1
  have hc : ∀ (ts : List Value) (w' : World), Sat (objA (some ⟨d, 0, none⟩) ts * (bufA bp T.buf * (viewA vp (some ⟨b, 0, none⟩) bp T.view * (mgrH (some ⟨a, 0, none⟩) (some ⟨b, 0, none⟩) (some ⟨c, 0, none⟩) r qs xs M i * R)))) w' →
      Sat (objA (some ⟨a, 0, none⟩) (mcells (some ⟨b, 0, none⟩) (some ⟨c, 0, none⟩) r qs M) * (mapA r (ptrs xs) * (bookA (some ⟨c, 0, none⟩) M.book * (objA (some ⟨d, 0, none⟩) ts * (bufA bp T.buf * (viewA vp (some ⟨b, 0, none⟩) bp T.view * (xmapA (some ⟨b, 0, none⟩) M.m * (Sl.all (del xs i) (fun x => trA (some ⟨b, 0, none⟩) x.2.1 x.2.2) * (ownS 1 qs (M.queue.map intv) * R))))))))) w' := fun ts w' hw => hw.eq (by unfold mgrH; ac_rfl)
  have fin : ∀ (tm : Int) (w' : World), (tm = if st = 4 then 0 else T.time) → Sat (objA (some ⟨d, 0, none⟩) [.int .i64 st, .int .i64 tm, .int .i64 code, .int .i64 T.at_, .pointer bp, .pointer vp] * (bufA bp T.buf * (viewA vp (some ⟨b, 0, none⟩) bp T.view * (mgrH (some ⟨a, 0, none⟩) (some ⟨b, 0, none⟩) (some ⟨c, 0, none⟩) r qs xs M i * R)))) w' →
      onP (some (⟨a, 0, none⟩ : Addr)) fun p13 => ∃ q14 : Option Addr, (w'.cell? (p13.add 1) = some (.pointer q14)) ∧ (c_horizon_Book_Close q14 i w' fun (_ : Int) w16 => K () w16) := by
    intro tm w' htm hw
    have h2 := hc _ _ hw
    rw [onP_some, add_mk]
    refine ⟨some ⟨c, 0, none⟩, (objA_cells h2).1 1, ?_⟩
    refine book_close (h2.eq (by ac_rfl : _ = bookA (some ⟨c, 0, none⟩) M.book * (objA (some ⟨a, 0, none⟩) (mcells (some ⟨b, 0, none⟩) (some ⟨c, 0, none⟩) r qs M) * (mapA r (ptrs xs) * (objA (some ⟨d, 0, none⟩) [.int .i64 st, .int .i64 tm, .int .i64 code, .int .i64 T.at_, .pointer bp, .pointer vp] * (bufA bp T.buf * (viewA vp (some ⟨b, 0, none⟩) bp T.view * (xmapA (some ⟨b, 0, none⟩) M.m * (Sl.all (del xs i) (fun x => trA (some ⟨b, 0, none⟩) x.2.1 x.2.2) * (ownS 1 qs (M.queue.map intv) * R)))))))))) fun w16 h16 => ?_
    subst htm
    refine hk _ (put xs i (some ⟨d, 0, none⟩, { T with state := st, code := code, time := if st = 4 then 0 else T.time })) (by rw [← put_on2, hx]) ?_
    rw [mgr_back hlk]
    have h17 := trA_close (T := { T with state := st, code := code, time := if st = 4 then 0 else T.time }) (mp := some ⟨b, 0, none⟩) (bp := bp) (vp := vp) (h16.eq (by ac_rfl : _ = objA (some ⟨d, 0, none⟩) [.int .i64 st, .int .i64 (if st = 4 then 0 else T.time), .int .i64 code, .int .i64 T.at_, .pointer bp, .pointer vp] * (bufA bp T.buf * (viewA vp (some ⟨b, 0, none⟩) bp T.view * (bookA (some ⟨c, 0, none⟩) (M.book.close i).1 * (objA (some ⟨a, 0, none⟩) (mcells (some ⟨b, 0, none⟩) (some ⟨c, 0, none⟩) r qs M) * (mapA r (ptrs xs) * (xmapA (some ⟨b, 0, none⟩) M.m * (Sl.all (del xs i) (fun x => trA (some ⟨b, 0, none⟩) x.2.1 x.2.2) * (ownS 1 qs (M.queue.map intv) * R))))))))))
    exact h17.eq (by unfold mgrH mcells; ac_rfl)
  refine txn_Manager_end_go ?_
  unfold f_txn_Manager_end
  have h2 := hc _ _ h1
  rw [onP_some, add_mk]
  refine ⟨some r, (objA_cells h2).1 2, rfl, ?_⟩
  rw [onM_some]
  obtain ⟨es, hcl, hf, _⟩ := mapA_get h2.right
  refine ⟨es, hcl, some ⟨d, 0, none⟩, by rw [hf]; unfold ptrs; rw [lkp_on2, hlk]; rfl, ?_⟩
  rw [onP_some]
  refine objA_store (i := 0) h1 (by simp) fun w8 h8 => ?_
  rw [onP_some, add_mk]
  refine objA_store (i := 2) h8 (by simp) fun w10 h10 => ?_
  simp only [List.set_cons_succ, List.set_cons_zero] at h10
  refine bsplit_decide.2 ⟨fun hs => ?_, fun hs => ?_⟩
  · rw [onP_some, add_mk]
    refine objA_store (i := 1) h10 (by simp) fun w12 h12 => ?_
    exact fin 0 w12 (by rw [if_pos hs]) h12
  · exact fin T.time w10 (by rw [if_neg hs]) h10
theorem mgr_abort {p : Option Addr} {M : Mgr} {i : Int} {R : HP} {w : World} {K : Int → World → Prop} (h : Sat (mgrA p M * R) w) (hk : ∀ w', Sat (mgrA p (M.abort i).1 * R) w' → K (M.abort i).2 w') : c_txn_Manager_Abort p i w K := by
  obtain ⟨mp, bk, r, qs, xs, hx, h1⟩ := mgrA_open h
  refine txn_Manager_Abort_go (open_c h1 hx (fun d T hlk hop hst => ?_) fun hop => ?_)
  · have hw : M.abort i = (M.end_ i 4 0, 0) := by unfold Mgr.abort; rw [hop]
    rw [hw] at hk
    refine bsplit_iff.2 ⟨fun e => (by cases e), fun _ => ?_⟩
    exact mgr_end h1 hx hlk fun w' xs' hx' h' => hk _ (mgrA_close h' hx')
  · have hw : M.abort i = (M, 5) := by unfold Mgr.abort; rw [hop]
    rw [hw] at hk
    exact hk _ h
theorem mgr_result {p : Option Addr} {M : Mgr} {i : Int} {R : HP} {w : World} {K : Int × Int × Int → World → Prop} (h : Sat (mgrA p M * R) w) (hk : ∀ w', Keep w w' → K (M.result i) w') : c_txn_Manager_Result p i w K := by
  obtain ⟨mp, bk, r, qs, xs, hx, h1⟩ := mgrA_open h
  obtain ⟨a, b, c, rfl, rfl, rfl⟩ := mgr_ptr h1
  have h2 : Sat (objA (some ⟨a, 0, none⟩) (mcells (some ⟨b, 0, none⟩) (some ⟨c, 0, none⟩) r qs M) * (mapA r (ptrs xs) * (Sl.all xs (fun x => trA (some ⟨b, 0, none⟩) x.2.1 x.2.2) * (bookA (some ⟨c, 0, none⟩) M.book * (xmapA (some ⟨b, 0, none⟩) M.m * (ownS 1 qs (M.queue.map intv) * R)))))) w := h1.eq (by unfold mgrO ptrs; ac_rfl)
  refine txn_Manager_Result_go (mgone_c h2 (bsplit_iff.2 ⟨fun e => (by cases e), fun _ => ?_⟩))
  rw [onP_some, add_mk]
  refine ⟨some r, (objA_cells h2).1 2, rfl, ?_⟩
  rw [onM_some]
  obtain ⟨es, hcl, hf, _⟩ := mapA_get h2.right
  have hfe : findE es i = (lkp xs i).map fun x => .pointer x.1 := by rw [hf]; unfold ptrs; rw [lkp_on2]
  have hall : lkp M.all i = (lkp xs i).map Prod.snd := by rw [← hx, lkp_on2]
  cases e : lkp xs i with
  | none =>
    refine ⟨es, hcl, none, by rw [hfe, e]; rfl, ?_⟩
    rw [hfe, e]
    have : M.result i = (0, 0, 0) := by unfold Mgr.result; rw [hall, e]; rfl
    rw [this] at hk
    exact hk _ (Keep.refl w)
  | some x =>
    obtain ⟨tp, T⟩ := x
    rw [all_take e] at h2
    obtain ⟨bp, vp, h3⟩ := trA_open (h2.eq (by ac_rfl : _ = trA (some ⟨b, 0, none⟩) tp T * (Sl.all (del xs i) (fun x => trA (some ⟨b, 0, none⟩) x.2.1 x.2.2) * (objA (some ⟨a, 0, none⟩) (mcells (some ⟨b, 0, none⟩) (some ⟨c, 0, none⟩) r qs M) * (mapA r (ptrs xs) * (bookA (some ⟨c, 0, none⟩) M.book * (xmapA (some ⟨b, 0, none⟩) M.m * (ownS 1 qs (M.queue.map intv) * R))))))))
    obtain ⟨d, td, rfl, _⟩ := objA_open h3
    refine ⟨es, hcl, some ⟨d, 0, none⟩, by rw [hfe, e]; rfl, ?_⟩
    rw [hfe, e]
    refine bsplit_iff.2 ⟨fun e => (by cases e), fun _ => ?_⟩
    rw [withW_iff]
    simp only [onP_some, add_mk, Nat.zero_add]
    have h4 := h3.drew
    refine ⟨T.state, (objA_cells h4).1 0, T.time, (objA_cells h4).1 1, T.code, (objA_cells h4).1 2, ?_⟩
    have : M.result i = (T.state, T.time, T.code) := by unfold Mgr.result; rw [hall, e]; rfl
    rw [this] at hk
    exact hk _ (Keep.drew w)
theorem mgr_last {p : Option Addr} {M : Mgr} {R : HP} {w : World} {K : Int → World → Prop} (h : Sat (mgrA p M * R) w) (hk : K M.last w) : c_txn_Manager_Last p w K := by
  obtain ⟨mp, bk, r, qs, xs, hx, h1⟩ := mgrA_open h
  obtain ⟨a, b, c, rfl, rfl, rfl⟩ := mgr_ptr h1
  have h2 : Sat (objA (some ⟨a, 0, none⟩) (mcells (some ⟨b, 0, none⟩) (some ⟨c, 0, none⟩) r qs M) * _) w := h1.eq (mul_assoc' _ _ _)
  refine txn_Manager_Last_go (mgone_c h2 (bsplit_iff.2 ⟨fun e => (by cases e), fun _ => ?_⟩))
  rw [onP_some, add_mk]
  exact ⟨M.last, (objA_cells h2).1 7, hk⟩
end Go.Proofs.YtbolgpjcmchfoaaGreat
/- Contracts of the manager: what waits, what may be committed. -/
namespace Go.Proofs.YtbolgpjcmchfoaaGreat
open Go Go.Vc Go.Sl Go.Mo
/-- What a manager's parts must be for its waiting ones to be told. -/
def WaitOk (M : Mgr) : Prop := M.queue.length ≤ 2 ^ 20 ∧ ∀ h ∈ M.queue, ∃ T, lkp M.all h = some T ∧ BufOk T.buf ∧ T.buf.data.length ≤ 2 ^ 20
theorem mgr_part {p mp bk tp : Option Addr} {r : Nat} {qs : SV} {xs : Prs} {M : Mgr} {i : Int} {T : Trn} {R : HP} {w : World} (h : Sat (mgrO p mp bk r qs xs M * R) w) (hlk : lkp xs i = some (tp, T)) :
    ∃ d bp vp, tp = some ⟨d, 0, none⟩ ∧ (∀ j, w.cell? ⟨d, j, none⟩ = [Value.int .i64 T.state, .int .i64 T.time, .int .i64 T.code, .int .i64 T.at_, .pointer bp, .pointer vp][j]?) ∧ Sat (bufA bp T.buf * 1) w ∧ Sat (viewA vp mp bp T.view * 1) w := by
  rw [mgr_focus hlk] at h
  obtain ⟨bp, vp, h1⟩ := trA_open (h.eq (mul_assoc' _ _ _))
  obtain ⟨d, td, rfl, _⟩ := objA_open h1
  exact ⟨d, bp, vp, rfl, (objA_cells h1).1, h1.right.left.eq (mul_one' _).symm, h1.right.right.left.eq (mul_one' _).symm⟩
theorem mgr_cells {p mp bk : Option Addr} {r : Nat} {qs : SV} {xs : Prs} {M : Mgr} {R : HP} {w : World} (h : Sat (mgrO p mp bk r qs xs M * R) w) : ∃ a, p = some ⟨a, 0, none⟩ ∧ (∀ j, w.cell? ⟨a, j, none⟩ = (mcells mp bk r qs M)[j]?) ∧ (∃ es, (∃ cl, mapAt w r .i64 es cl) ∧ ∀ k, findE es k = (lkp xs k).map fun x => Value.pointer x.1) ∧ Sat (ownS 1 qs (M.queue.map intv) * 1) w ∧ Sat (xmapA mp M.m * 1) w := by
  obtain ⟨a, b, c, rfl, rfl, rfl⟩ := mgr_ptr h
  have h2 : Sat (objA (some ⟨a, 0, none⟩) (mcells (some ⟨b, 0, none⟩) (some ⟨c, 0, none⟩) r qs M) * (mapA r (ptrs xs) * (ownS 1 qs (M.queue.map intv) * (xmapA (some ⟨b, 0, none⟩) M.m * (Sl.all xs (fun x => trA (some ⟨b, 0, none⟩) x.2.1 x.2.2) * (bookA (some ⟨c, 0, none⟩) M.book * R)))))) w := h.eq (by unfold mgrO ptrs; ac_rfl)
  obtain ⟨es, hcl, hf, _⟩ := mapA_get h2.right
  exact ⟨a, rfl, (objA_cells h2).1, ⟨es, hcl, fun k => by rw [hf]; unfold ptrs; rw [lkp_on2]⟩, h2.right.right.left.eq (mul_one' _).symm, h2.right.right.right.left.eq (mul_one' _).symm⟩
theorem mapAt_keep {w w' : World} (k : Keep w w') {r : Nat} {es : List En} (h : ∃ cl, mapAt w r .i64 es cl) : ∃ cl, mapAt w' r .i64 es cl := by
  obtain ⟨cl, hm⟩ := h
  exact ⟨cl, keep_heap k hm⟩
theorem waiting_take {M : Mgr} {i : Nat} (hi : i < M.queue.length) {T : Trn} (hT : lkp M.all M.queue[i] = some T) : (M.queue.take (i + 1)).filterMap (fun h => (lkp M.all h).map fun T => (⟨T.time, T.buf.puts⟩ : Tx)) = (M.queue.take i).filterMap (fun h => (lkp M.all h).map fun T => ⟨T.time, T.buf.puts⟩) ++ [⟨T.time, T.buf.puts⟩] := by
  rw [List.take_succ_eq_append_getElem hi, List.filterMap_append]
  simp [hT]
theorem waiting_length {M : Mgr} (ok : WaitOk M) : ∀ i, i ≤ M.queue.length → ((M.queue.take i).filterMap (fun h => (lkp M.all h).map fun T => (⟨T.time, T.buf.puts⟩ : Tx))).length = i
  | 0, _ => by simp
  | i + 1, h => by
    obtain ⟨T, hT, _⟩ := ok.2 _ (List.getElem_mem (show i < M.queue.length by omega))
    rw [waiting_take (by omega) hT, List.length_append, waiting_length ok i (by omega)]; rfl
theorem waiting_len {M : Mgr} (ok : WaitOk M) : M.waiting.length = M.queue.length := by
  have := waiting_length ok M.queue.length (Nat.le_refl _)
  rwa [List.take_length] at this
theorem mgr_waiting {p mp bk : Option Addr} {r : Nat} {qs : SV} {xs : Prs} {M : Mgr} {R : HP} {w : World} {K : SV → World → Prop} (h : Sat (mgrO p mp bk r qs xs M * R) w) (hx : on2 Prod.snd xs = M.all) (ok : WaitOk M) (hk : ∀ s w', Sat (txsA s M.waiting * whole w) w' → K s w') : c_txn_Manager_waiting p w K := by
  obtain ⟨a, rfl, hcell, ⟨es, hcl, hf⟩, hqs, _⟩ := mgr_cells h
  refine txn_Manager_waiting_go ?_
  unfold f_txn_Manager_waiting
  rw [onP_some, add_mk]
  refine ⟨qs, hcell 3, ?_⟩
  have hqn : qs.n = M.queue.length := by have := ownS_length hqs; simp at this; omega
  have hql := ok.1
  have hwl := waiting_len ok
  refine loop_i (fun (x : SV × Int) w' => ∃ i : Nat, x.2 = i ∧ i ≤ M.queue.length ∧ Sat (txsA x.1 ((M.queue.take i).filterMap (fun h => (lkp M.all h).map fun T => ⟨T.time, T.buf.puts⟩)) * whole w) w') (fun x _ => M.queue.length - x.2.toNat) ⟨0, rfl, by omega, pairsA_nil (sat_whole w) rfl rfl⟩ ?_
  rintro ⟨out, x⟩ w4 ⟨i, hxx, hi, hw⟩
  simp only at hxx hw; subst hxx
  dsimp only
  have k4 : Keep w w4 := Keep.whole hw.right
  refine bsplit_decide.2 ⟨fun hlt => ?_, fun hge => ?_⟩
  · have hlt' : i < M.queue.length := by omega
    obtain ⟨b, hb, hbc⟩ := ownS_cell hqs (i := i) (by simpa using hlt')
    obtain ⟨T, hT, hbo, hbl⟩ := ok.2 _ (List.getElem_mem hlt')
    have hlen := waiting_length ok i hi
    have hnext := waiting_take hlt' hT
    have hci : w.cell? ⟨b, i, none⟩ = some (.int .i64 M.queue[i]) := by rw [hbc i (by simpa using hlt')]; simp [intv]
    generalize M.queue[i] = hd at hT hnext hci
    refine ⟨by omega, hlt, onP_i hb ⟨hd, by simpa using keep_cell k4 hci, ?_⟩⟩
    rw [onP_some, add_mk]
    refine ⟨some r, keep_cell k4 (hcell 2), rfl, ?_⟩
    rw [onM_some]
    have hlk : ∃ tp, lkp xs hd = some (tp, T) := by
      rw [← hx, lkp_on2] at hT
      cases e : lkp xs hd with
      | none => rw [e] at hT; cases hT
      | some x => rw [e] at hT; simp only [Option.map_some, Option.some.injEq] at hT; exact ⟨x.1, by rw [← hT]⟩
    obtain ⟨tp, hlk⟩ := hlk
    obtain ⟨d, bp, vp, rfl, htc, hbuf, _⟩ := mgr_part h hlk
    refine ⟨es, mapAt_keep k4 hcl, some ⟨d, 0, none⟩, by rw [hf, hlk]; rfl, ?_⟩
    rw [withW_iff]
    have kd : Keep w w4.drew := k4.trans (Keep.drew _)
    refine ⟨fun w' => Keep w w', kd, ?_⟩
    rw [onP_some, add_mk]
    refine ⟨T.time, fun w' k => keep_cell k (htc 1), ?_⟩
    rw [onP_some, add_mk]
    refine ⟨bp, fun w' k => keep_cell k (htc 4), ?_⟩
    refine buf_puts (kd.sat hbuf) hbo fun s24 w25 h25 => ?_
    have k25 : Keep w4.drew w25 := Keep.whole h25.right
    refine ⟨kd.trans k25, ?_⟩
    rw [withW_iff]
    have h25' : Sat (putsA s24 T.buf.puts * (txsA out _ * whole w)) w25 := Sat.frame h25 hw.drew
    have h26 := h25'.alloc (.cells #[.int .i64 T.time, .slice s24.a s24.n s24.c] 70)
    have hc0 := h26.cell 0
    have hc1 := h26.cell 1
    have h27 := h26.right
    refine ⟨kd.trans (k25.trans (Keep.alloc _ _)), ?_⟩
    generalize w25.heap.size = bn at hc0 hc1 ⊢
    refine pairsA_push (num := Tx.time) (A := fun s x => putsA s x.puts) (x := (⟨T.time, T.buf.puts⟩ : Tx)) (d := s24) (l := (M.queue.take i).filterMap (fun h => (lkp M.all h).map fun T => ⟨T.time, T.buf.puts⟩)) (R := whole w) (h27.eq ?_) ⟨hc0, hc1⟩ (by rw [hlen]; omega) (by omega) rfl fun s' w28 h28 => ?_
    · show putsA s24 T.buf.puts * (txsA out _ * whole w) = txsA out _ * (putsA s24 T.buf.puts * whole w)
      ac_rfl
    · have e1 : IntKind.i64.wrap ((i : Int) + 1) = ((i + 1 : Nat) : Int) := by rw [wrap_of (by omega) (by omega)]; omega
      refine ⟨Keep.whole h28.right, ⟨⟨i + 1, e1, by omega, ?_⟩, by simp only [e1]; omega⟩⟩
      rw [hnext]
      exact h28
  · obtain rfl : i = M.queue.length := by omega
    rw [List.take_length] at hw
    exact hk _ _ hw
/-- What a transaction must be to be asked whether it may be committed. -/
def TrnOk (T : Trn) : Prop := BufOk T.buf ∧ (∀ q ∈ T.buf.data, lbaOk q.1) ∧ T.buf.data.length ≤ 2 ^ 20 ∧ SetOk T.view.set ∧ T.view.set.l.length ≤ 2 ^ 20
theorem puts_length (B : Buf) : B.puts.length = B.data.length := by simp [Buf.puts, sortI_length]
theorem waiting_puts {M : Mgr} (ok : WaitOk M) : ∀ t ∈ M.waiting, t.puts.length ≤ 2 ^ 20 := by
  intro t ht
  unfold Mgr.waiting at ht
  obtain ⟨h, hh, e⟩ := List.mem_filterMap.1 ht
  obtain ⟨T, hT, _, hl⟩ := ok.2 h hh
  rw [hT] at e
  simp only [Option.map_some, Option.some.injEq] at e
  rw [← e]
  simp only [puts_length]; exact hl
theorem viewSet_ok {V : View} (_ : SetOk V.set) (hl : V.set.l.length ≤ 2 ^ 20) : SetOk (viewSet V) := set_add_ok emptySet_ok (by simp; omega)
theorem mgr_may {B : Nat} {p mp bk tp : Option Addr} {r : Nat} {qs : SV} {xs : Prs} {M : Mgr} {i : Int} {T : Trn} {R : HP} {w : World} {K : Int → World → Prop} (h : Sat (mgrO p mp bk r qs xs M * R) w) (hx : on2 Prod.snd xs = M.all) (okM : XOk B M.m) (hB : B ≤ 2 ^ 31) (ok : WaitOk M) (okT : TrnOk T) (hlk : lkp xs i = some (tp, T))
    (hk : ∀ w', Keep w w' → K (M.may T) w') : c_txn_Manager_may p tp w K := by
  obtain ⟨a, rfl, hcell, _, _, hxm⟩ := mgr_cells h
  obtain ⟨d, bp, vp, rfl, htc, hbuf, hview⟩ := mgr_part h hlk
  refine txn_Manager_may_go ?_
  unfold f_txn_Manager_may
  rw [onP_some, add_mk]
  refine ⟨M.read, hcell 9, bsplit_iff.2 ⟨fun hr => ?_, fun hr => ?_⟩⟩
  · have : M.may T = 10 := by unfold Mgr.may; rw [if_pos hr]
    rw [this] at hk; exact hk _ (Keep.refl w)
  rw [withW_iff]
  have hr' : ¬ M.read = true := by simp [hr]
  refine ⟨fun w' => Keep w w', Keep.drew w, ?_⟩
  simp only [onP_some, add_mk, Nat.zero_add]
  refine ⟨mp, fun w' k => keep_cell k (hcell 0), T.at_, fun w' k => keep_cell k (htc 3), vp, fun w' k => keep_cell k (htc 5), bp, fun w' k => keep_cell k (htc 4), ?_⟩
  obtain ⟨hbo, hlb, hbl, hso, hsl⟩ := okT
  refine mgr_waiting h.drew hx ok fun x17 w18 h18 => ?_
  have k18 : Keep w w18 := (Keep.drew w).trans (Keep.whole h18.right)
  refine ⟨k18, view_set (k18.sat hview) (by omega) fun x19 w20 h20 => ?_⟩
  have k20 : Keep w18 w20 := Keep.whole h20.right
  refine ⟨k18.trans k20, buf_set ((k18.trans k20).sat hbuf) hbo hlb hbl fun x21 w22 hok h22 => ?_⟩
  have k22 : Keep w20 w22 := Keep.whole h22.right
  have kk := k18.trans (k20.trans k22)
  refine ⟨kk, ?_⟩
  have hq22 : Sat (txsA x17 M.waiting * 1) w22 := (k20.trans k22).sat (h18.left.eq (mul_one' _).symm)
  refine valid_c (Sr := viewSet T.view) (Ss := bufSet T.buf) (kk.sat hxm) okM hB (k22.sat h20) (viewSet_ok hso hsl) h22 hok (txsA_on hq22.left) ⟨by rw [waiting_len ok]; have := ok.1; omega, fun t ht => by have := waiting_puts ok t ht; omega⟩ fun w24 k24 => ⟨kk.trans k24, ?_⟩
  refine bsplit_iff.2 ⟨fun hv => ?_, fun hv => ?_⟩
  · have hv' : validM M.m M.waiting T.at_ (viewSet T.view) (bufSet T.buf) ≠ 0 := by simpa using hv
    have : M.may T = validM M.m M.waiting T.at_ (viewSet T.view) (bufSet T.buf) := by unfold Mgr.may; rw [if_neg hr', if_pos hv']
    rw [this] at hk; exact hk _ (kk.trans k24)
  · have hv' : ¬ validM M.m M.waiting T.at_ (viewSet T.view) (bufSet T.buf) ≠ 0 := by simpa using hv
    refine ⟨M.given, keep_cell (kk.trans k24) (hcell 8), bsplit_decide.2 ⟨fun hg => ?_, fun hg => ?_⟩⟩
    · have : M.may T = 11 := by unfold Mgr.may; rw [if_neg hr', if_neg hv', if_pos hg]
      rw [this] at hk; exact hk _ (kk.trans k24)
    · have : M.may T = 0 := by unfold Mgr.may; rw [if_neg hr', if_neg hv', if_neg hg]
      rw [this] at hk; exact hk _ (kk.trans k24)
end Go.Proofs.YtbolgpjcmchfoaaGreat
/- Contracts of the manager: one is handed in. -/
namespace Go.Proofs.YtbolgpjcmchfoaaGreat
open Go Go.Vc Go.Sl Go.Mo
theorem lkp_put_self {α : Type} (l : List (Int × α)) (k : Int) (v : α) : lkp (put l k v) k = some v := by rw [lkp_put]; simp
theorem mgr_commit {B : Nat} {p : Option Addr} {M : Mgr} {i : Int} {R : HP} {w : World} {K : Int → World → Prop} (h : Sat (mgrA p M * R) w) (okM : XOk B M.m) (hB : B ≤ 2 ^ 31) (ok : WaitOk M) (okT : ∀ T, M.opn i = some T → TrnOk T) (hg : 0 ≤ M.given ∧ M.given ≤ 2 ^ 41)
    (hk : ∀ w', Sat (mgrA p (M.commit i).1 * R) w' → K (M.commit i).2 w') : c_txn_Manager_Commit p i w K := by
  obtain ⟨mp, bk, r, qs, xs, hx, h1⟩ := mgrA_open h
  refine txn_Manager_Commit_go (open_c h1 hx (fun d T hlk hop hst => ?_) fun hop => ?_)
  rotate_left
  · have hw : M.commit i = (M, 5) := by unfold Mgr.commit; rw [hop]
    rw [hw] at hk
    exact hk _ h
  have oT := okT T hop
  refine bsplit_iff.2 ⟨fun e => (by cases e), fun _ => ?_⟩
  obtain ⟨a, hpa, hcell, _, _, _⟩ := mgr_cells h1
  subst hpa
  have h2 := h1
  rw [mgr_focus hlk] at h2
  obtain ⟨bp, vp, h3⟩ := trA_open (h2.eq (mul_assoc' _ _ _))
  rw [onP_some, add_mk]
  refine ⟨bp, (objA_cells h3).1 4, ?_⟩
  refine buf_len (h3.eq (by ac_rfl : _ = bufA bp T.buf * (objA (some ⟨d, 0, none⟩) [.int .i64 T.state, .int .i64 T.time, .int .i64 T.code, .int .i64 T.at_, .pointer bp, .pointer vp] * (viewA vp mp bp T.view * (mgrH (some ⟨a, 0, none⟩) mp bk r qs xs M i * R))))) oT.1 fun w6 k6 => bsplit_decide.2 ⟨fun h0 => ?_, fun h0 => ?_⟩
  · have hc : M.commit i = (({ M with all := put M.all i { T with time := T.at_ } } : Mgr).end_ i 3 0, 0) := by unfold Mgr.commit; rw [hop]; simp only []; rw [if_pos (by omega)]
    rw [hc] at hk
    have h4 := k6.sat h3
    simp only [onP_some, add_mk]
    refine ⟨T.at_, (objA_cells h4).1 3, objA_storeT (i := 1) h4 (by simp) fun w10 h10 => ?_⟩
    have h11 := trA_close (T := { T with time := T.at_ }) h10
    have h12 : Sat (mgrO (some ⟨a, 0, none⟩) mp bk r qs (put xs i (some ⟨d, 0, none⟩, { T with time := T.at_ })) { M with all := put M.all i { T with time := T.at_ } } * R) w10 := h11.eq (by
      have := mgr_back (p := some ⟨a, 0, none⟩) (mp := mp) (bk := bk) (r := r) (qs := qs) (M := { M with all := put M.all i { T with time := T.at_ } }) (T' := { T with time := T.at_ }) hlk
      rw [this]; unfold mgrH mcells; ac_rfl)
    exact mgr_end h12 (by rw [← put_on2, hx]) (lkp_put_self _ _ _) fun w' xs' hx' h' => hk _ (mgrA_close h' hx')
  have hc0 : ¬ T.buf.data.length = 0 := by omega
  refine mgr_may (k6.sat h1) hx okM hB ok oT hlk fun w14 k14 => bsplit_iff.2 ⟨fun hm => ?_, fun hm => ?_⟩
  · have hm' : M.may T ≠ 0 := by simpa using hm
    have hc : M.commit i = (M.end_ i 4 (M.may T), M.may T) := by unfold Mgr.commit; rw [hop]; simp only []; rw [if_neg hc0, if_pos hm']
    rw [hc] at hk
    exact mgr_end ((k6.trans k14).sat h1) hx hlk fun w' xs' hx' h' => hk _ (mgrA_close h' hx')
  · have hm' : ¬ M.may T ≠ 0 := by simpa using hm
    have hc : M.commit i = ({ M with given := M.given + 1, all := put M.all i { T with state := 2, time := M.given + 1 }, queue := M.queue ++ [i] }, 0) := by unfold Mgr.commit; rw [hop]; simp only []; rw [if_neg hc0, if_neg hm']
    rw [hc] at hk
    have h4 := (k6.trans k14).sat h3
    have h5 : Sat (objA (some ⟨a, 0, none⟩) (mcells mp bk r qs M) * (objA (some ⟨d, 0, none⟩) [.int .i64 T.state, .int .i64 T.time, .int .i64 T.code, .int .i64 T.at_, .pointer bp, .pointer vp] * (ownS 1 qs (M.queue.map intv) * (bufA bp T.buf * (viewA vp mp bp T.view * (xmapA mp M.m * (bookA bk M.book * (mapA r (ptrs xs) * (Sl.all (del xs i) (fun x => trA mp x.2.1 x.2.2) * R))))))))) w14 := h4.eq (by unfold mgrH; ac_rfl)
    simp only [onP_some, add_mk, Nat.zero_add]
    refine ⟨M.given, (objA_cells h5).1 8, objA_storeT (i := 8) h5 (by simp [mcells]) fun w20 h20 => ?_⟩
    rw [wrap_of (by omega) (by omega)] at h20
    have hset : (mcells mp bk r qs M).set 8 (.int .i64 (M.given + 1)) = mcells mp bk r qs { M with given := M.given + 1 } := rfl
    rw [hset] at h20
    refine ⟨M.given + 1, (objA_cells h20).1 8, ?_⟩
    have h21 : Sat (objA (some ⟨d, 0, none⟩) [.int .i64 T.state, .int .i64 T.time, .int .i64 T.code, .int .i64 T.at_, .pointer bp, .pointer vp] * (objA (some ⟨a, 0, none⟩) (mcells mp bk r qs { M with given := M.given + 1 }) * (ownS 1 qs (M.queue.map intv) * (bufA bp T.buf * (viewA vp mp bp T.view * (xmapA mp M.m * (bookA bk M.book * (mapA r (ptrs xs) * (Sl.all (del xs i) (fun x => trA mp x.2.1 x.2.2) * R))))))))) w20 := h20.eq (by ac_rfl)
    refine objA_storeT (i := 0) h21 (by simp) fun w24 h24 => objA_storeT (i := 1) h24 (by simp) fun w26 h26 => ?_
    simp only [List.set_cons_succ, List.set_cons_zero] at h26
    have h27 : Sat (objA (some ⟨a, 0, none⟩) (mcells mp bk r qs { M with given := M.given + 1 }) * (objA (some ⟨d, 0, none⟩) [.int .i64 2, .int .i64 (M.given + 1), .int .i64 T.code, .int .i64 T.at_, .pointer bp, .pointer vp] * (ownS 1 qs (M.queue.map intv) * (bufA bp T.buf * (viewA vp mp bp T.view * (xmapA mp M.m * (bookA bk M.book * (mapA r (ptrs xs) * (Sl.all (del xs i) (fun x => trA mp x.2.1 x.2.2) * R))))))))) w26 := h26.eq (by ac_rfl)
    refine ⟨qs, (objA_cells h27).1 3, ?_⟩
    rw [withW_iff]
    have h28 := h27.alloc (.cells #[.int .i64 i] 3)
    have hcb := h28.cell 0
    have h29 := h28.right
    generalize w26.heap.size = bn at hcb ⊢
    have h30 : Sat (ownS 1 qs (M.queue.map intv) * (objA (some ⟨a, 0, none⟩) (mcells mp bk r qs { M with given := M.given + 1 }) * (objA (some ⟨d, 0, none⟩) [.int .i64 2, .int .i64 (M.given + 1), .int .i64 T.code, .int .i64 T.at_, .pointer bp, .pointer vp] * (bufA bp T.buf * (viewA vp mp bp T.view * (xmapA mp M.m * (bookA bk M.book * (mapA r (ptrs xs) * (Sl.all (del xs i) (fun x => trA mp x.2.1 x.2.2) * R))))))))) (w26.alloc (.cells #[.int .i64 i] 3)) := h29.eq (by ac_rfl)
    have hqn : qs.n = M.queue.length := by have := ownS_length h30; simp at this; omega
    have hql := ok.1
    refine append_own (news := [.int .i64 i]) h30 rfl rfl (fun ad had => ?_) (fun hno => by cases hno) (by rw [hqn]; simp; omega) (by omega) rfl fun s' w' hs' h' => ?_
    · cases had
      exact hcb
    · have h31 : Sat (objA (some ⟨a, 0, none⟩) (mcells mp bk r qs { M with given := M.given + 1 }) * (ownS 1 s' ((M.queue ++ [i]).map intv) * (objA (some ⟨d, 0, none⟩) [.int .i64 2, .int .i64 (M.given + 1), .int .i64 T.code, .int .i64 T.at_, .pointer bp, .pointer vp] * (bufA bp T.buf * (viewA vp mp bp T.view * (xmapA mp M.m * (bookA bk M.book * (mapA r (ptrs xs) * (Sl.all (del xs i) (fun x => trA mp x.2.1 x.2.2) * R))))))))) w' := h'.eq (by rw [List.map_append]; simp only [List.map_cons, List.map_nil, intv]; ac_rfl)
      refine objA_storeT (i := 3) h31 (by simp [mcells]) fun w'' h'' => hk _ ?_
      have hset2 : (mcells mp bk r qs { M with given := M.given + 1 }).set 3 (.slice s'.a s'.n s'.c) = mcells mp bk r s' { M with given := M.given + 1, all := put M.all i { T with state := 2, time := M.given + 1 }, queue := M.queue ++ [i] } := rfl
      rw [hset2] at h''
      refine mgrA_close (M := { M with given := M.given + 1, all := put M.all i { T with state := 2, time := M.given + 1 }, queue := M.queue ++ [i] }) (mp := mp) (bk := bk) (r := r) (qs := s') (xs := put xs i (some ⟨d, 0, none⟩, { T with state := 2, time := M.given + 1 })) ?_ (by rw [← put_on2, hx])
      rw [mgr_back hlk]
      have h32 := trA_close (T := { T with state := 2, time := M.given + 1 }) (mp := mp) (bp := bp) (vp := vp) (h''.eq (by ac_rfl : _ = objA (some ⟨d, 0, none⟩) [.int .i64 2, .int .i64 (M.given + 1), .int .i64 T.code, .int .i64 T.at_, .pointer bp, .pointer vp] * (bufA bp T.buf * (viewA vp mp bp T.view * (objA (some ⟨a, 0, none⟩) (mcells mp bk r s' { M with given := M.given + 1, all := put M.all i { T with state := 2, time := M.given + 1 }, queue := M.queue ++ [i] }) * (ownS 1 s' ((M.queue ++ [i]).map intv) * (xmapA mp M.m * (bookA bk M.book * (mapA r (ptrs xs) * (Sl.all (del xs i) (fun x => trA mp x.2.1 x.2.2) * R))))))))))
      exact h32.eq (by unfold mgrH; ac_rfl)
end Go.Proofs.YtbolgpjcmchfoaaGreat
/- Contracts of the manager: the next batch. -/
namespace Go.Proofs.YtbolgpjcmchfoaaGreat
open Go Go.Vc Go.Sl Go.Mo
theorem formL_bounds : ∀ (l : List Tx) (a n : Int), n ≤ formL l a n ∧ formL l a n ≤ n + (l.length : Nat)
  | [], a, n => by simp [formL]
  | t :: r, a, n => by
    simp only [formL]
    split
    · simp; omega
    · have := formL_bounds r (a + (t.puts.length : Nat)) (n + 1)
      simp only [List.length_cons]; omega
theorem sub_zero {a : Option Addr} {c e : Nat} (ha : ∀ ad, a = some ad → ad.spot = none) : sub? a 0 c e = a := by
  unfold sub?
  split
  · rfl
  · cases a with
    | none => rfl
    | some ad =>
      have := ha ad rfl
      obtain ⟨b, o, s⟩ := ad
      simp only at this; subst this
      simp
theorem txsOn_take {h : Heap} {s : SV} {l : List Tx} (hl : txsOn h s l) {k : Nat} (hk : k ≤ l.length) (c : Nat) : txsOn h ⟨s.a, k, c⟩ (l.take k) := by
  refine ⟨by simp; omega, fun i hi => ?_⟩
  have hi' : i < l.length := by simp at hi; omega
  obtain ⟨ad, d, h1, h2, h3, h4⟩ := hl.2 i hi'
  exact ⟨ad, d, h1, by simpa using h2, h3, by simpa using h4⟩
/-- The first transactions of a row of one's own. -/
def batchA (s : SV) (txs : List Tx) : HP := ex fun sf : SV => ex fun l : List Tx => lift (txs = l.take s.n ∧ s.a = sf.a ∧ s.n ≤ l.length) * txsA sf l
theorem batchA_close {s sf : SV} {txs l : List Tx} {R : HP} {w : World} (h : Sat (txsA sf l * R) w) (h1 : txs = l.take s.n) (h2 : s.a = sf.a) (h3 : s.n ≤ l.length) : Sat (batchA s txs * R) w := by
  simp only [batchA, ex_mul, mul_assoc', sat_ex, sat_lift]
  exact ⟨sf, l, ⟨h1, h2, h3⟩, h⟩
theorem batchA_on {s : SV} {txs : List Tx} {R : HP} {w : World} (h : Sat (batchA s txs * R) w) : txsOn (hp w) s txs := by
  simp only [batchA, ex_mul, mul_assoc', sat_ex, sat_lift] at h
  obtain ⟨sf, l, ⟨h1, h2, h3⟩, h⟩ := h
  have := txsOn_take (txsA_on h.left) h3 s.c
  rw [← h1, ← h2] at this
  exact this
theorem pairsA_spot {β : Type} {num : β → Int} {A : SV → β → HP} {s : SV} {l : List β} {R : HP} {w : World} (h : Sat (pairsA num A s l * R) w) (hl : 0 < l.length) : ∃ b, s.a = some ⟨b, 0, none⟩ ∧ l.length ≤ s.c := by
  obtain ⟨b, d, hb, _⟩ := pairsA_get h hl
  refine ⟨b, hb, ?_⟩
  have hn := pairsA_n h
  obtain ⟨xs, rfl, h1⟩ := pairsA_open h
  rcases ownS_cases h1 with ⟨_, e, _⟩ | ⟨_, e, _⟩
  · omega
  · omega
theorem mgr_batch {p : Option Addr} {M : Mgr} {R : HP} {w : World} {K : (Int × SV) × Int → World → Prop} (h : Sat (mgrA p M * R) w) (ok : WaitOk M) (hnum : 0 ≤ M.num ∧ M.num ≤ 2 ^ 41)
    (hk : ∀ s' w', Sat (batchA s' M.batch.2.1.2 * (mgrA p M.batch.1 * R)) w' → K ((M.batch.2.1.1, s'), M.batch.2.2) w') : c_txn_Manager_Batch p w K := by
  obtain ⟨mp, bk, r, qs, xs, hx, h1⟩ := mgrA_open h
  obtain ⟨a, b, c, rfl, rfl, rfl⟩ := mgr_ptr h1
  refine txn_Manager_Batch_go ?_
  unfold f_txn_Manager_Batch
  rw [withW_iff]
  have h2 := objA_new (t := 42) (vs := [.int .i64 0, .slice none 0 0]) h1
  change Sat _ (w.alloc (.cells #[.int .i64 0, .slice none 0 0] 42)) at h2
  generalize w.alloc _ = w1 at h2 ⊢
  generalize w.heap.size = bx at h2 ⊢
  have h3 : Sat (objA (some ⟨a, 0, none⟩) (mcells (some ⟨b, 0, none⟩) (some ⟨c, 0, none⟩) r qs M) * _) w1 := h2.eq (by unfold mgrO; rw [mul_assoc', ← mul_assoc', mul_comm' (objA (some ⟨bx, 0, none⟩) _), mul_assoc'])
  -- an answer without transactions
  have no : ∀ (code : Int) (w3 : World), M.batch = (M, (0, []), code) → Sat (objA (some ⟨bx, 0, none⟩) [.int .i64 0, .slice none 0 0] * (mgrO (some ⟨a, 0, none⟩) (some ⟨b, 0, none⟩) (some ⟨c, 0, none⟩) r qs xs M * R)) w3 →
      ((((∃ u, w3.cell? (⟨bx, 0, none⟩ : Addr) = some u) ∧ w3.frozen? (⟨bx, 0, none⟩ : Addr) = false) ∧ ((∃ u, w3.cell? ((⟨bx, 0, none⟩ : Addr).add 1) = some u) ∧ w3.frozen? ((⟨bx, 0, none⟩ : Addr).add 1) = false)) ∧ (true = true) ∧
       (withW ((w3.setCell (⟨bx, 0, none⟩ : Addr) (.int .i64 0)).setCell ((⟨bx, 0, none⟩ : Addr).add 1) (.slice none 0 0)) fun w4 =>
        (∃ g5 : Int × SV, (w4.cell? (⟨bx, 0, none⟩ : Addr) = some (.int .i64 g5.1) ∧ w4.cell? ((⟨bx, 0, none⟩ : Addr).add 1) = some (.slice g5.2.a g5.2.n g5.2.c)) ∧
         K ((g5.1, ⟨g5.2.a, g5.2.n, g5.2.c⟩), code) w4))) := by
    intro code w3 hb hw
    obtain ⟨hc, hf⟩ := objA_cells hw
    rw [add_mk]
    have h4 := objA_set (objA_set hw 0 (.int .i64 0)) 1 (.slice none 0 0)
    refine ⟨⟨⟨⟨_, hc 0⟩, hf 0⟩, ⟨_, hc 1⟩, hf 1⟩, rfl, gen_w h4 fun w4 h4 => ⟨(0, ⟨none, 0, 0⟩), ⟨(objA_cells h4).1 0, (objA_cells h4).1 1⟩, ?_⟩⟩
    have := hk ⟨none, 0, 0⟩ w4
    rw [hb] at this
    exact this (batchA_close (sf := ⟨none, 0, 0⟩) (l := []) (pairsA_nil (mgrA_close h4.right hx) rfl rfl) rfl rfl (Nat.le_refl _))
  refine mgone_c h3 (bsplit_iff.2 ⟨fun e => (by cases e), fun _ => ?_⟩)
  rw [onP_some, add_mk]
  refine ⟨M.out, (objA_cells h3).1 4, bsplit_decide.2 ⟨fun ho => ?_, fun ho => ?_⟩⟩
  · exact no 16 w1 (by unfold Mgr.batch; rw [if_pos ho]) h2
  rw [onP_some, add_mk]
  have hqn : qs.n = M.queue.length := by
    obtain ⟨_, _, _, _, hqs, _⟩ := mgr_cells h1
    have := ownS_length hqs
    simp at this; omega
  refine ⟨qs, (objA_cells h3).1 3, bsplit_decide.2 ⟨fun hq => ?_, fun hq => ?_⟩⟩
  · exact no 14 w1 (by unfold Mgr.batch; rw [if_neg ho, if_pos (by omega)]) h2
  have hq0 : ¬ M.queue.length = 0 := by omega
  have hbatch : M.batch = ({ M with out := formL M.waiting 0 0 }, (M.num + 1, M.waiting.take (formL M.waiting 0 0).toNat), 0) := by unfold Mgr.batch; rw [if_neg ho, if_neg hq0]
  have hwl := waiting_len ok
  refine mgr_waiting h2.right hx ok fun x14 w15 h15 => ?_
  have hon := txsA_on h15.left
  refine form_c hon ⟨by rw [hwl]; exact ok.1, fun t ht => waiting_puts ok t ht⟩ fun w17 k17 => ?_
  have h17 : Sat (txsA x14 M.waiting * (objA (some ⟨bx, 0, none⟩) [.int .i64 0, .slice none 0 0] * (mgrO (some ⟨a, 0, none⟩) (some ⟨b, 0, none⟩) (some ⟨c, 0, none⟩) r qs xs M * R))) w17 := k17.sat (Sat.frame h15 h2)
  obtain ⟨f1, f2⟩ := formL_bounds M.waiting 0 0
  rw [onP_some, add_mk]
  have h18 : Sat (objA (some ⟨a, 0, none⟩) (mcells (some ⟨b, 0, none⟩) (some ⟨c, 0, none⟩) r qs M) * (txsA x14 M.waiting * (objA (some ⟨bx, 0, none⟩) [.int .i64 0, .slice none 0 0] * ((xmapA (some ⟨b, 0, none⟩) M.m * (bookA (some ⟨c, 0, none⟩) M.book * (mapA r (on2 (fun x => .pointer x.1) xs) * (Sl.all xs (fun x => trA (some ⟨b, 0, none⟩) x.2.1 x.2.2) * ownS 1 qs (M.queue.map intv))))) * R)))) w17 := h17.eq (by unfold mgrO; ac_rfl)
  refine objA_store (i := 4) h18 (by simp [mcells]) fun w19 h19 => ?_
  have hset : (mcells (some ⟨b, 0, none⟩) (some ⟨c, 0, none⟩) r qs M).set 4 (.int .i64 (formL M.waiting 0 0)) = mcells (some ⟨b, 0, none⟩) (some ⟨c, 0, none⟩) r qs { M with out := formL M.waiting 0 0 } := rfl
  rw [hset] at h19
  rw [withW_iff]
  have h20 := h19.drew
  refine ⟨fun w' => Sat (objA (some ⟨a, 0, none⟩) (mcells (some ⟨b, 0, none⟩) (some ⟨c, 0, none⟩) r qs { M with out := formL M.waiting 0 0 }) * 1) w', objA_only h20, ?_⟩
  simp only [onP_some, add_mk, Nat.zero_add]
  obtain ⟨bt, hbt, hcap⟩ := pairsA_spot h15 (by rw [hwl]; omega)
  refine ⟨M.num, fun w' hw => (objA_cells hw).1 5, formL M.waiting 0 0, fun w' hw => (objA_cells hw).1 4, by omega, by omega, by omega, ?_⟩
  have h21 : Sat (objA (some ⟨bx, 0, none⟩) [.int .i64 0, .slice none 0 0] * (objA (some ⟨a, 0, none⟩) (mcells (some ⟨b, 0, none⟩) (some ⟨c, 0, none⟩) r qs { M with out := formL M.waiting 0 0 }) * (txsA x14 M.waiting * ((xmapA (some ⟨b, 0, none⟩) M.m * (bookA (some ⟨c, 0, none⟩) M.book * (mapA r (on2 (fun x => .pointer x.1) xs) * (Sl.all xs (fun x => trA (some ⟨b, 0, none⟩) x.2.1 x.2.2) * ownS 1 qs (M.queue.map intv))))) * R)))) w19.drew := h20.eq (by ac_rfl)
  obtain ⟨hc, hf⟩ := objA_cells h21
  have hsub : sub? x14.a (0 : Int).toNat x14.c 2 = x14.a := sub_zero fun ad had => by rw [hbt] at had; cases had; rfl
  rw [hsub, wrap_of (by omega) (by omega)]
  have h22 := objA_set (objA_set h21 0 (.int .i64 (M.num + 1))) 1 (.slice x14.a ((formL M.waiting 0 0).toNat - (0 : Int).toNat) (x14.c - (0 : Int).toNat))
  refine ⟨⟨⟨⟨_, hc 0⟩, hf 0⟩, ⟨_, hc 1⟩, hf 1⟩, trivial, gen_w h22 fun w28 h28 => ⟨objA_only h28.right, (M.num + 1, ⟨x14.a, (formL M.waiting 0 0).toNat - (0 : Int).toNat, x14.c - (0 : Int).toNat⟩), ⟨(objA_cells h28).1 0, (objA_cells h28).1 1⟩, ?_⟩⟩
  have := hk ⟨x14.a, (formL M.waiting 0 0).toNat - (0 : Int).toNat, x14.c - (0 : Int).toNat⟩ w28
  rw [hbatch] at this
  refine this ?_
  have h29 : Sat (txsA x14 M.waiting * (mgrO (some ⟨a, 0, none⟩) (some ⟨b, 0, none⟩) (some ⟨c, 0, none⟩) r qs xs { M with out := formL M.waiting 0 0 } * R)) w28 := h28.right.eq (by unfold mgrO; ac_rfl)
  have h30 : Sat (txsA x14 M.waiting * (mgrA (some ⟨a, 0, none⟩) { M with out := formL M.waiting 0 0 } * R)) w28 := by
    have := mgrA_close (R := txsA x14 M.waiting * R) (M := { M with out := formL M.waiting 0 0 }) (h29.eq (by ac_rfl)) hx
    exact this.eq (by ac_rfl)
  exact batchA_close h30 (by simp) rfl (by simp; omega)
end Go.Proofs.YtbolgpjcmchfoaaGreat
/- Contracts of the manager: a batch is done. -/
namespace Go.Proofs.YtbolgpjcmchfoaaGreat
open Go Go.Vc Go.Sl Go.Mo
theorem row_sub {h : Heap} {s : SV} {vs : List Value} {k m : Nat} (hr : rowOn h s vs) (hsp : ∀ ad, s.a = some ad → ad.spot = none) (hn : vs.length = s.n) (hc : s.n ≤ s.c) (hk : k ≤ m) (hm : m ≤ s.n) (c : Nat) : rowOn h ⟨sub? s.a k s.c 1, m - k, c⟩ ((vs.drop k).take (m - k)) := by
  cases ha : s.a with
  | none =>
    have := hr.1 ha
    subst this
    refine ⟨fun _ => by simp, fun ad had i hi => by simp at hi⟩
  | some ad =>
    have hs := hsp ad ha
    obtain ⟨b, o, sp⟩ := ad
    simp only at hs; subst hs
    unfold sub?
    split
    · rename_i e
      have : m - k = 0 := by omega
      rw [this]
      exact ⟨fun _ => by simp, fun ad had i hi => by simp at hi⟩
    · refine ⟨fun e => by simp at e, fun ad had i hi => ?_⟩
      simp only [Option.map_some, Option.some.injEq] at had
      subst had
      have hi' : k + i < vs.length := by simp at hi; omega
      have := hr.2 _ ha (k + i) hi'
      simp only [add_mk, Nat.mul_one] at this ⊢
      rw [Nat.add_assoc]
      simpa using this
theorem all_one_ints (l : List Int) : (l.map intv).all Vc.one = true := by simp [intv, Vc.one]
theorem clone_ints {s : SV} {l : List Int} {R : HP} {w : World} {K : SV → World → Prop} (h : Sat R w) (hl : rowOn (hp w) s (l.map intv)) (hn : s.n = l.length) (hc : l.length ≤ 2 ^ 30) (hk : ∀ s' w', s'.n = l.length → Sat (ownS 1 s' (l.map intv) * R) w' → K s' w') : c_slices_Clone_int_int s w K :=
  slices_Clone_int_int_go (clone_i h hl (by simp [hn]) (all_one_ints l) (by rw [hn]; omega) (by omega) rfl (by omega) fun s' w' e hs => hk s' w' (e.trans hn) hs)
theorem ownS_spot {sz : Nat} {s : SV} {vs : List Value} {R : HP} {w : World} (h : Sat (ownS sz s vs * R) w) (h0 : 0 < s.c) : ∃ b, s.a = some ⟨b, 0, none⟩ := by
  rcases ownS_cases h with ⟨e, _⟩ | ⟨_, _, b, _, _, e, _⟩
  · omega
  · exact ⟨b, e⟩
theorem end_keys {M : Mgr} {i st code k : Int} (h : (lkp M.all k).isSome) : (lkp (M.end_ i st code).all k).isSome := by
  unfold Mgr.end_
  split
  · exact h
  · simp only [lkp_put]; split
    · rfl
    · exact h
theorem end_rest (M : Mgr) (i st code : Int) : (M.end_ i st code).m = M.m ∧ (M.end_ i st code).queue = M.queue ∧ (M.end_ i st code).out = M.out ∧ (M.end_ i st code).num = M.num := by
  unfold Mgr.end_
  split <;> exact ⟨rfl, rfl, rfl, rfl⟩
theorem done_rest (code : Int) (M : Mgr) (x : Int × Tx) : (doneOne code M x).queue = M.queue ∧ (doneOne code M x).out = M.out ∧ (doneOne code M x).num = M.num := by
  unfold doneOne
  split
  · exact (end_rest _ _ _ _).2
  · exact (end_rest _ _ _ _).2
theorem done_keys {code : Int} {M : Mgr} {x : Int × Tx} {k : Int} (h : (lkp M.all k).isSome) : (lkp (doneOne code M x).all k).isSome := by
  unfold doneOne
  split
  · exact end_keys h
  · exact end_keys h
theorem foldl_done (code : Int) : ∀ (l : List (Int × Tx)) (M : Mgr), ((l.foldl (doneOne code) M).queue = M.queue ∧ (l.foldl (doneOne code) M).out = M.out ∧ (l.foldl (doneOne code) M).num = M.num) ∧ ∀ k, (lkp M.all k).isSome → (lkp (l.foldl (doneOne code) M).all k).isSome
  | [], M => ⟨⟨rfl, rfl, rfl⟩, fun _ h => h⟩
  | x :: r, M => by
    obtain ⟨⟨a, b, c⟩, d⟩ := foldl_done code r (doneOne code M x)
    obtain ⟨a', b', c'⟩ := done_rest code M x
    exact ⟨⟨a.trans a', b.trans b', c.trans c'⟩, fun k h => d k (done_keys h)⟩
theorem done_x {B : Nat} {code : Int} {M : Mgr} {x : Int × Tx} (ok : XOk B M.m) (hn : x.2.puts.length ≤ 2 ^ 13) : XOk (B + 1) (doneOne code M x).m := by
  unfold doneOne
  split
  · rw [(end_rest _ _ _ _).1]
    exact ⟨ok.1, Nat.le_trans ok.2.1 (Nat.mul_le_mul_right _ (Nat.le_succ B)), fun q hq => by obtain ⟨h1, h2, h3, h4⟩ := ok.2.2 q hq; exact ⟨h1, h2, by omega, h4⟩⟩
  · rw [(end_rest _ _ _ _).1]
    exact apply_ok ok hn
theorem foldl_done_x {code : Int} : ∀ (l : List (Int × Tx)) {B : Nat} {M : Mgr}, XOk B M.m → (∀ x ∈ l, x.2.puts.length ≤ 2 ^ 13) → XOk (B + l.length) (l.foldl (doneOne code) M).m
  | [], _, _, ok, _ => ok
  | x :: r, B, M, ok, hn => by
    have := foldl_done_x (code := code) r (done_x (code := code) ok (hn x (by simp))) fun y hy => hn y (by simp [hy])
    simp only [List.foldl_cons, List.length_cons]
    rw [show B + (r.length + 1) = B + 1 + r.length from by omega]
    exact this
theorem sat2 {A B X : HP} {w : World} (h : Sat (A * (B * X)) w) : Sat (A * (B * 1)) w := (h.eq (mul_assoc' A B X).symm).left.eq (by rw [mul_one'])
theorem mgr_done {B : Nat} {p : Option Addr} {M : Mgr} {code : Int} {R : HP} {w : World} {K : Int → World → Prop} (h : Sat (mgrA p M * R) w) (okM : XOk B M.m) (hB : B ≤ 2 ^ 20) (ok : WaitOk M) (hql : M.queue.length ≤ 2 ^ 19) (hpl : ∀ t ∈ M.waiting, t.puts.length ≤ 2 ^ 13) (hout : 0 ≤ M.out ∧ M.out ≤ (M.queue.length : Nat)) (hnum : 0 ≤ M.num ∧ M.num ≤ 2 ^ 41)
    (hk : ∀ w', Sat (mgrA p (M.done code).1 * R) w' → K (M.done code).2 w') : c_txn_Manager_Done p code w K := by
  obtain ⟨mp, bk, r, qs, xs, hx, h1⟩ := mgrA_open h
  obtain ⟨a, b, c, rfl, rfl, rfl⟩ := mgr_ptr h1
  have ho : ∀ {xs : Prs} {M : Mgr} {X : HP} {w : World}, Sat (mgrO (some ⟨a, 0, none⟩) (some ⟨b, 0, none⟩) (some ⟨c, 0, none⟩) r qs xs M * X) w → Sat (objA (some ⟨a, 0, none⟩) (mcells (some ⟨b, 0, none⟩) (some ⟨c, 0, none⟩) r qs M) * 1) w := fun hw => objA_only (hw.eq (mul_assoc' _ _ _))
  have h2 := ho h1
  refine txn_Manager_Done_go (mgone_c h2 (bsplit_iff.2 ⟨fun e => (by cases e), fun _ => ?_⟩))
  rw [onP_some, add_mk]
  refine ⟨M.out, (objA_cells h2).1 4, bsplit_decide.2 ⟨fun h0 => ?_, fun h0 => ?_⟩⟩
  · have hd : M.done code = (M, 14) := by unfold Mgr.done; rw [if_pos h0]
    rw [hd] at hk; exact hk _ h
  obtain ⟨k, hk0⟩ := Int.eq_ofNat_of_zero_le hout.1
  have hkq : k ≤ M.queue.length := by omega
  have hdone : M.done code = ({ ((M.queue.take k).zip (M.waiting.take k)).foldl (doneOne code) M with num := if code = 0 then M.num + 1 else M.num, queue := M.queue.drop k, out := 0 }, 0) := by
    unfold Mgr.done; rw [if_neg h0, hk0]; rfl
  rw [hdone] at hk
  rw [withW_iff]
  refine ⟨fun w' => Sat (objA (some ⟨a, 0, none⟩) (mcells (some ⟨b, 0, none⟩) (some ⟨c, 0, none⟩) r qs M) * 1) w', h2.drew, ?_⟩
  rw [onP_some, add_mk]
  refine ⟨M.out, fun w' hw => (objA_cells hw).1 4, ?_⟩
  have hwl := waiting_len ok
  refine mgr_waiting h1.drew hx ok fun x10 w11 h11 => ?_
  have h11' : Sat (txsA x10 M.waiting * (mgrO (some ⟨a, 0, none⟩) (some ⟨b, 0, none⟩) (some ⟨c, 0, none⟩) r qs xs M * R)) w11 := Sat.frame h11 h1.drew
  obtain ⟨bt, hbt, hcap⟩ := pairsA_spot h11' (by rw [hwl]; omega)
  refine ⟨ho h11'.right, by omega, by omega, by omega, ?_⟩
  rw [withW_iff]
  have h12 := h11'.drew
  refine ⟨fun w' => Sat (objA (some ⟨a, 0, none⟩) (mcells (some ⟨b, 0, none⟩) (some ⟨c, 0, none⟩) r qs M) * 1) w', ho h12.right, ?_⟩
  simp only [onP_some, add_mk, Nat.zero_add]
  obtain ⟨_, _, _, _, hqs, _⟩ := mgr_cells h12.right
  have hqn : qs.n = M.queue.length := by have := ownS_length hqs; simp at this; omega
  have hqc := ownS_cap hqs
  have hqsp : ∀ ad, qs.a = some ad → ad.spot = none := fun ad had => by
    obtain ⟨b', hb'⟩ := ownS_spot hqs (by omega)
    rw [hb'] at had; cases had; rfl
  refine ⟨qs, fun w' hw => (objA_cells hw).1 3, M.out, fun w' hw => (objA_cells hw).1 4, by omega, by omega, by omega, ?_⟩
  have hrow : rowOn (hp w11.drew) ⟨sub? qs.a (0 : Int).toNat qs.c 1, M.out.toNat - (0 : Int).toNat, qs.c - (0 : Int).toNat⟩ ((M.queue.take k).map intv) := by
    obtain ⟨g, hg, ha⟩ := hqs.left
    have := row_sub (k := 0) (m := k) (rowOn_le hg (ownS_on ha)) hqsp (by simp [hqn]) hqc (Nat.zero_le _) (by omega) (qs.c - (0 : Int).toNat)
    rw [List.drop_zero, Nat.sub_zero, ← List.map_take] at this
    rw [hk0]
    simpa using this
  refine clone_ints h12 hrow (by rw [hk0]; simp; omega) (by simp; omega) fun x20 w21 hx20 h21 => ?_
  refine ⟨ho (h21.right.right), ?_⟩
  have hx20n : x20.n = k := by rw [hx20]; simp; omega
  -- the transactions that wait, laid open
  obtain ⟨ts, hts, h22⟩ := pairsA_open (h21.eq (by unfold txsA; ac_rfl : _ = pairsA Tx.time (fun s x => putsA s x.puts) x10 M.waiting * (ownS 1 x20 ((M.queue.take k).map intv) * (mgrO (some ⟨a, 0, none⟩) (some ⟨b, 0, none⟩) (some ⟨c, 0, none⟩) r qs xs M * R))))
  have htl : ts.length = M.queue.length := by rw [← hwl, ← hts]; simp
  have hfl := flat2_length (fun x : SV × Tx => .int .i64 x.2.time) (fun x => slv x.1) ts
  have hzl : ∀ i, i ≤ k → (((M.queue.take k).zip (M.waiting.take k)).take i).length = i := fun i hi => by simp [hwl]; omega
  have hzi : ∀ i (hi : i < k), ((M.queue.take k).zip (M.waiting.take k)).take (i + 1) = ((M.queue.take k).zip (M.waiting.take k)).take i ++ [(M.queue[i]'(by omega), (ts[i]'(by omega)).2)] := fun i hi => by
    rw [List.take_succ_eq_append_getElem (by simp [hwl]; omega)]
    congr 2
    simp only [List.getElem_zip, List.getElem_take, ← hts, List.getElem_map]
  refine loop_i (fun (x : Int) w' => ∃ (i : Nat) (xs' : Prs), x = i ∧ i ≤ k ∧ on2 Prod.snd xs' = ((((M.queue.take k).zip (M.waiting.take k)).take i).foldl (doneOne code) M).all ∧
      Sat (ownS 2 x10 (ts.flatMap fun x => [.int .i64 x.2.time, slv x.1]) * (Sl.all ts (fun x => putsA x.1 x.2.puts) * (ownS 1 x20 ((M.queue.take k).map intv) * (mgrO (some ⟨a, 0, none⟩) (some ⟨b, 0, none⟩) (some ⟨c, 0, none⟩) r qs xs' ((((M.queue.take k).zip (M.waiting.take k)).take i).foldl (doneOne code) M) * R)))) w')
    (fun x _ => k - x.toNat) ⟨0, xs, rfl, by omega, hx, h22⟩ ?_
  rintro x w23 ⟨i, xs', rfl, hi, hx', hw⟩
  have hMi := foldl_done code (((M.queue.take k).zip (M.waiting.take k)).take i) M
  refine bsplit_decide.2 ⟨fun hlt => ?_, fun hge => ?_⟩
  · have hik : i < k := by omega
    have hXi : XOk (B + i) ((((M.queue.take k).zip (M.waiting.take k)).take i).foldl (doneOne code) M).m := by
      have := foldl_done_x (code := code) (((M.queue.take k).zip (M.waiting.take k)).take i) okM fun x hx => by
        have h1 := (List.of_mem_zip (List.mem_of_mem_take (show (x.1, x.2) ∈ _ from hx))).2
        exact hpl _ (List.mem_of_mem_take h1)
      rwa [hzl i (by omega)] at this
    have hnext := hzi i hik
    have hfold : (((M.queue.take k).zip (M.waiting.take k)).take (i + 1)).foldl (doneOne code) M = doneOne code ((((M.queue.take k).zip (M.waiting.take k)).take i).foldl (doneOne code) M) (M.queue[i]'(by omega), (ts[i]'(by omega)).2) := by
      rw [hnext, List.foldl_append]; rfl
    obtain ⟨Mi, hMie⟩ : ∃ Mi, (((M.queue.take k).zip (M.waiting.take k)).take i).foldl (doneOne code) M = Mi := ⟨_, rfl⟩
    rw [hMie] at hx' hw hMi hXi hfold
    have hkey : ∃ tp T, lkp xs' (M.queue[i]'(by omega)) = some (tp, T) := by
      obtain ⟨T, hT, _⟩ := ok.2 (M.queue[i]'(by omega)) (List.getElem_mem (by omega))
      have := hMi.2 _ (by rw [hT]; rfl)
      rw [← hx', lkp_on2] at this
      cases e : lkp xs' (M.queue[i]'(by omega)) with
      | none => rw [e] at this; simp at this
      | some x => exact ⟨x.1, x.2, rfl⟩
    have hh : Sat (ownS 1 x20 ((M.queue.take k).map intv) * (ownS 2 x10 (ts.flatMap fun x => [.int .i64 x.2.time, slv x.1]) * (Sl.all ts (fun x => putsA x.1 x.2.puts) * (mgrO (some ⟨a, 0, none⟩) (some ⟨b, 0, none⟩) (some ⟨c, 0, none⟩) r qs xs' Mi * R)))) w23 := hw.eq (by ac_rfl)
    obtain ⟨bh, hbh, hch⟩ := ownS_cell hh (i := i) (by simp; omega)
    have hci : w23.cell? ⟨bh, i, none⟩ = some (.int .i64 (M.queue[i]'(by omega))) := by rw [hch i (by simp; omega)]; simp [intv]
    have hti : ∃ ti, ts[i]'(by omega) = ti := ⟨_, rfl⟩
    have e1 : IntKind.i64.wrap ((i : Int) + 1) = ((i + 1 : Nat) : Int) := by rw [wrap_of (by omega) (by omega)]; omega
    obtain ⟨hd, hqi⟩ : ∃ hd, M.queue[i]'(by omega) = hd := ⟨_, rfl⟩
    rw [hqi] at hkey hci hfold
    obtain ⟨tp, T, hlk⟩ := hkey
    have fin : ∀ w' xs2, on2 Prod.snd xs2 = (doneOne code Mi (hd, (ts[i]'(by omega)).2)).all → Sat (mgrO (some ⟨a, 0, none⟩) (some ⟨b, 0, none⟩) (some ⟨c, 0, none⟩) r qs xs2 (doneOne code Mi (hd, (ts[i]'(by omega)).2)) * (ownS 2 x10 (ts.flatMap fun x => [.int .i64 x.2.time, slv x.1]) * (Sl.all ts (fun x => putsA x.1 x.2.puts) * (ownS 1 x20 ((M.queue.take k).map intv) * R)))) w' →
        (∃ (i_1 : Nat) (xs' : Prs), IntKind.i64.wrap ((i : Int) + 1) = i_1 ∧ i_1 ≤ k ∧ on2 Prod.snd xs' = ((((M.queue.take k).zip (M.waiting.take k)).take i_1).foldl (doneOne code) M).all ∧
          Sat (ownS 2 x10 (ts.flatMap fun x => [.int .i64 x.2.time, slv x.1]) * (Sl.all ts (fun x => putsA x.1 x.2.puts) * (ownS 1 x20 ((M.queue.take k).map intv) * (mgrO (some ⟨a, 0, none⟩) (some ⟨b, 0, none⟩) (some ⟨c, 0, none⟩) r qs xs' ((((M.queue.take k).zip (M.waiting.take k)).take i_1).foldl (doneOne code) M) * R)))) w') ∧ k - (IntKind.i64.wrap ((i : Int) + 1)).toNat < k - (i : Int).toNat := by
      intro w' xs2 hx2 hw2
      refine ⟨⟨i + 1, xs2, e1, by omega, by rw [hfold]; exact hx2, ?_⟩, by rw [e1]; simp; omega⟩
      rw [hfold]
      exact hw2.eq (by ac_rfl)
    have hwm : Sat (mgrO (some ⟨a, 0, none⟩) (some ⟨b, 0, none⟩) (some ⟨c, 0, none⟩) r qs xs' Mi * (ownS 2 x10 (ts.flatMap fun x => [.int .i64 x.2.time, slv x.1]) * (Sl.all ts (fun x => putsA x.1 x.2.puts) * (ownS 1 x20 ((M.queue.take k).map intv) * R)))) w23 := hw.eq (by ac_rfl)
    refine ⟨by omega, by omega, onP_i hbh ⟨hd, by simpa using hci, bsplit_iff.2 ⟨fun hcd => ?_, fun hcd => ?_⟩⟩⟩
    · have hcd' : code ≠ 0 := by simpa using hcd
      have hdo : doneOne code Mi (hd, (ts[i]'(by omega)).2) = Mi.end_ hd 4 code := by unfold doneOne; rw [if_pos hcd']
      rw [hdo] at fin
      exact mgr_end hwm hx' hlk fun w' xs2 hx2 h' => fin w' xs2 hx2 h'
    · have hcd' : ¬ code ≠ 0 := by simpa using hcd
      have hdo : doneOne code Mi (hd, (ts[i]'(by omega)).2) = ({ Mi with m := (Mi.m.apply (ts[i]'(by omega)).2).1, last := (ts[i]'(by omega)).2.time } : Mgr).end_ hd 3 0 := by unfold doneOne; rw [if_neg hcd']
      rw [hdo] at fin
      rw [withW_iff]
      have hwd := hwm.drew
      have hwd2 : Sat (objA (some ⟨a, 0, none⟩) (mcells (some ⟨b, 0, none⟩) (some ⟨c, 0, none⟩) r qs Mi) * (ownS 2 x10 (ts.flatMap fun x => [.int .i64 x.2.time, slv x.1]) * _)) w23.drew := hwd.eq (by unfold mgrO; rw [mul_assoc', ← mul_assoc' _ (ownS 2 x10 _), mul_comm' _ (ownS 2 x10 _), mul_assoc'])
      have hsub : sub? x10.a (0 : Int).toNat x10.c 2 = x10.a := sub_zero fun ad had => by rw [hbt] at had; cases had; rfl
      obtain ⟨g1, g2⟩ := flat2_get (fun x : SV × Tx => .int .i64 x.2.time) (fun x => slv x.1) ts i (by omega)
      have rdT : ∀ w', Sat (objA (some ⟨a, 0, none⟩) (mcells (some ⟨b, 0, none⟩) (some ⟨c, 0, none⟩) r qs Mi) * (ownS 2 x10 (ts.flatMap fun x => [.int .i64 x.2.time, slv x.1]) * 1)) w' → w'.cell? ⟨bt, i * 2, none⟩ = some (.int .i64 (ts[i]'(by omega)).2.time) ∧ w'.cell? ⟨bt, i * 2 + 1, none⟩ = some (slv (ts[i]'(by omega)).1) := fun w' hw' => by
        obtain ⟨b', hb', hc'⟩ := ownS_cell hw'.right (i := i * 2) (by rw [hfl]; omega)
        rw [hbt] at hb'; cases hb'
        have a1 := hc' (i * 2) (by rw [hfl]; omega)
        have a2 := hc' (i * 2 + 1) (by rw [hfl]; omega)
        rw [← List.getElem?_eq_getElem, g1] at a1
        rw [← List.getElem?_eq_getElem, g2] at a2
        exact ⟨a1, a2⟩
      refine ⟨fun w' => Sat (objA (some ⟨a, 0, none⟩) (mcells (some ⟨b, 0, none⟩) (some ⟨c, 0, none⟩) r qs Mi) * (ownS 2 x10 (ts.flatMap fun x => [.int .i64 x.2.time, slv x.1]) * 1)) w', ?_, some ⟨b, 0, none⟩, fun w' hw' => (objA_cells hw').1 0, by omega, by rw [hk0]; simp; omega, ?_⟩
      · exact sat2 hwd2
      · rw [hsub]
        have hap : Sat (xmapA (some ⟨b, 0, none⟩) Mi.m * (objA (some ⟨a, 0, none⟩) (mcells (some ⟨b, 0, none⟩) (some ⟨c, 0, none⟩) r qs Mi) * (ownS 2 x10 (ts.flatMap fun x => [.int .i64 x.2.time, slv x.1]) * (Sl.all ts (fun x => putsA x.1 x.2.puts) * (bookA (some ⟨c, 0, none⟩) Mi.book * (mapA r (on2 (fun x => .pointer x.1) xs') * (Sl.all xs' (fun x => trA (some ⟨b, 0, none⟩) x.2.1 x.2.2) * (ownS 1 qs (Mi.queue.map intv) * (ownS 1 x20 ((M.queue.take k).map intv) * R))))))))) w23.drew := hwd.eq (by unfold mgrO; ac_rfl)
        have htm : (ts[i]'(by omega)).2 ∈ M.waiting := hts ▸ List.mem_map_of_mem (f := Prod.snd) (List.getElem_mem (by omega))
        have hS := fun w' (hw' : Sat (objA (some ⟨a, 0, none⟩) (mcells (some ⟨b, 0, none⟩) (some ⟨c, 0, none⟩) r qs Mi) * (ownS 2 x10 (ts.flatMap fun x => [.int .i64 x.2.time, slv x.1]) * 1)) w') => rdT w' hw'
        refine onP_i hbt ⟨((ts[i]'(by omega)).2.time, (ts[i]'(by omega)).1), fun w' hw' => ⟨?_, ?_⟩, ?_⟩
        · have := (rdT w' hw').1
          simp only [Int.toNat_natCast, Nat.zero_add, add_mk]; exact this
        · have := (rdT w' hw').2
          simp only [Int.toNat_natCast, Nat.zero_add, add_mk]; exact this
        refine xmap_apply (t := (ts[i]'(by omega)).2) hap hXi (by omega) (fun w' hw' => putsA_on (all_mem (A := fun x : SV × Tx => putsA x.1 x.2.puts) (List.getElem_mem (by omega)) hw'.right.right.left)) (by have := hpl _ htm; omega) fun w38 h38 => ?_
        have h39 : Sat (objA (some ⟨a, 0, none⟩) (mcells (some ⟨b, 0, none⟩) (some ⟨c, 0, none⟩) r qs Mi) * (ownS 2 x10 (ts.flatMap fun x => [.int .i64 x.2.time, slv x.1]) * (xmapA (some ⟨b, 0, none⟩) (Mi.m.apply (ts[i]'(by omega)).2).1 * (Sl.all ts (fun x => putsA x.1 x.2.puts) * (bookA (some ⟨c, 0, none⟩) Mi.book * (mapA r (on2 (fun x => .pointer x.1) xs') * (Sl.all xs' (fun x => trA (some ⟨b, 0, none⟩) x.2.1 x.2.2) * (ownS 1 qs (Mi.queue.map intv) * (ownS 1 x20 ((M.queue.take k).map intv) * R))))))))) w38 := h38.eq (by ac_rfl)
        refine ⟨sat2 h39, by omega, by rw [hk0]; simp; omega, ?_⟩
        refine onP_i hbt ⟨(ts[i]'(by omega)).2.time, ?_, ?_⟩
        · have := (rdT w38 (sat2 h39)).1
          simp only [Int.toNat_natCast, Nat.zero_add, add_mk]; exact this
        refine objA_storeT (i := 7) h39 (by simp [mcells]) fun w42 h42 => ?_
        have hset : (mcells (some ⟨b, 0, none⟩) (some ⟨c, 0, none⟩) r qs Mi).set 7 (.int .i64 (ts[i]'(by omega)).2.time) = mcells (some ⟨b, 0, none⟩) (some ⟨c, 0, none⟩) r qs { Mi with m := (Mi.m.apply (ts[i]'(by omega)).2).1, last := (ts[i]'(by omega)).2.time } := rfl
        rw [hset] at h42
        have h43 : Sat (mgrO (some ⟨a, 0, none⟩) (some ⟨b, 0, none⟩) (some ⟨c, 0, none⟩) r qs xs' { Mi with m := (Mi.m.apply (ts[i]'(by omega)).2).1, last := (ts[i]'(by omega)).2.time } * (ownS 2 x10 (ts.flatMap fun x => [.int .i64 x.2.time, slv x.1]) * (Sl.all ts (fun x => putsA x.1 x.2.puts) * (ownS 1 x20 ((M.queue.take k).map intv) * R)))) w42 := h42.eq (by unfold mgrO; ac_rfl)
        exact mgr_end h43 hx' hlk fun w' xs2 hx2 h' => fin w' xs2 hx2 h'
  · obtain rfl : i = k := by omega
    have hfull : ((M.queue.take i).zip (M.waiting.take i)).take i = (M.queue.take i).zip (M.waiting.take i) := List.take_of_length_le (by simp [hwl]; omega)
    rw [hfull] at hw hMi hx'
    obtain ⟨M1, hM1⟩ : ∃ M1, ((M.queue.take i).zip (M.waiting.take i)).foldl (doneOne code) M = M1 := ⟨_, rfl⟩
    rw [hM1] at hw hMi hx' hk
    obtain ⟨⟨mq, mo, mn⟩, _⟩ := hMi
    have hwm : Sat (mgrO (some ⟨a, 0, none⟩) (some ⟨b, 0, none⟩) (some ⟨c, 0, none⟩) r qs xs' M1 * (ownS 2 x10 (ts.flatMap fun x => [.int .i64 x.2.time, slv x.1]) * (Sl.all ts (fun x => putsA x.1 x.2.puts) * (ownS 1 x20 ((M.queue.take i).map intv) * R)))) w23 := hw.eq (by ac_rfl)
    have tail : ∀ (w : World) (M2 : Mgr), M2 = { M1 with num := if code = 0 then M.num + 1 else M.num } → Sat (mgrO (some ⟨a, 0, none⟩) (some ⟨b, 0, none⟩) (some ⟨c, 0, none⟩) r qs xs' M2 * (ownS 2 x10 (ts.flatMap fun x => [.int .i64 x.2.time, slv x.1]) * (Sl.all ts (fun x => putsA x.1 x.2.puts) * (ownS 1 x20 ((M.queue.take i).map intv) * R)))) w →
        withW w.drew fun w50 => ∃ S : World → Prop, S w50 ∧ ∃ s52 : SV, (∀ w53, S w53 → w53.cell? (⟨a, 3, none⟩ : Addr) = some (.slice s52.a s52.n s52.c)) ∧ ∃ n55 : Int, (∀ w56, S w56 → w56.cell? (⟨a, 4, none⟩ : Addr) = some (.int .i64 n55)) ∧
          0 ≤ n55 ∧ n55 ≤ ((s52.n : Nat) : Int) ∧ ((s52.n : Nat) : Int) ≤ ((s52.c : Nat) : Int) ∧
          c_slices_Clone_int_int ⟨sub? s52.a n55.toNat s52.c 1, ((s52.n : Nat) : Int).toNat - n55.toNat, s52.c - n55.toNat⟩ w50 fun x57 w58 => S w58 ∧
            ((∃ u, w58.cell? (⟨a, 3, none⟩ : Addr) = some u) ∧ w58.frozen? (⟨a, 3, none⟩ : Addr) = false) ∧ True ∧ withW (w58.setCell (⟨a, 3, none⟩ : Addr) (.slice x57.a x57.n x57.c)) fun w60 =>
              ((∃ u, w60.cell? (⟨a, 4, none⟩ : Addr) = some u) ∧ w60.frozen? (⟨a, 4, none⟩ : Addr) = false) ∧ True ∧ withW (w60.setCell (⟨a, 4, none⟩ : Addr) (.int .i64 0)) fun w62 => K 0 w62 := by
      intro w M2 hM2 hw2
      rw [withW_iff]
      have hwd := hw2.drew
      have q2 : M2.queue = M.queue := by rw [hM2]; exact mq
      have o2 : M2.out = M.out := by rw [hM2]; exact mo
      refine ⟨fun w' => Sat (objA (some ⟨a, 0, none⟩) (mcells (some ⟨b, 0, none⟩) (some ⟨c, 0, none⟩) r qs M2) * 1) w', ho hwd, qs, fun w' hw' => (objA_cells hw').1 3, M2.out, fun w' hw' => (objA_cells hw').1 4, by omega, by omega, by omega, ?_⟩
      obtain ⟨_, _, _, _, hqs2, _⟩ := mgr_cells hwd
      have hrow2 : rowOn (hp w.drew) ⟨sub? qs.a M2.out.toNat qs.c 1, ((qs.n : Nat) : Int).toNat - M2.out.toNat, qs.c - M2.out.toNat⟩ ((M.queue.drop i).map intv) := by
        obtain ⟨g, hg, ha⟩ := hqs2.left
        rw [q2] at ha
        have := row_sub (k := i) (m := qs.n) (rowOn_le hg (ownS_on ha)) hqsp (by simp [hqn]) hqc (by omega) (Nat.le_refl _) (qs.c - i)
        rw [o2, hk0, Int.toNat_natCast, Int.toNat_natCast]
        have e : List.take (qs.n - i) ((M.queue.map intv).drop i) = (M.queue.drop i).map intv := by
          rw [← List.map_drop, List.take_of_length_le (by simp [hqn])]
        rw [e] at this
        exact this
      refine clone_ints hwd hrow2 (by rw [o2, hk0]; simp; omega) (by simp; omega) fun x57 w58 hx57 h58 => ⟨ho h58.right, ?_⟩
      have h59 : Sat (objA (some ⟨a, 0, none⟩) (mcells (some ⟨b, 0, none⟩) (some ⟨c, 0, none⟩) r qs M2) * (ownS 1 x57 ((M.queue.drop i).map intv) * (xmapA (some ⟨b, 0, none⟩) M2.m * (bookA (some ⟨c, 0, none⟩) M2.book * (mapA r (on2 (fun x => .pointer x.1) xs') * (Sl.all xs' (fun x => trA (some ⟨b, 0, none⟩) x.2.1 x.2.2) * (R * (ownS 1 qs (M2.queue.map intv) * (ownS 2 x10 (ts.flatMap fun x => [.int .i64 x.2.time, slv x.1]) * (Sl.all ts (fun x => putsA x.1 x.2.puts) * ownS 1 x20 ((M.queue.take i).map intv))))))))))) w58 := h58.eq (by unfold mgrO; ac_rfl)
      refine objA_storeT (i := 3) h59 (by simp [mcells]) fun w60 h60 => objA_storeT (i := 4) h60 (by simp [mcells]) fun w62 h62 => hk _ ?_
      have hset : ((mcells (some ⟨b, 0, none⟩) (some ⟨c, 0, none⟩) r qs M2).set 3 (.slice x57.a x57.n x57.c)).set 4 (.int .i64 0) = mcells (some ⟨b, 0, none⟩) (some ⟨c, 0, none⟩) r x57 { M2 with queue := M.queue.drop i, out := 0 } := rfl
      rw [hset] at h62
      have hfinal : ({ M1 with num := if code = 0 then M.num + 1 else M.num, queue := M.queue.drop i, out := 0 } : Mgr) = { M2 with queue := M.queue.drop i, out := 0 } := by rw [hM2]
      rw [hfinal]
      have hxf : on2 Prod.snd xs' = M2.all := by rw [hM2]; exact hx'
      refine mgrA_close (M := { M2 with queue := M.queue.drop i, out := 0 }) (mp := some ⟨b, 0, none⟩) (bk := some ⟨c, 0, none⟩) (r := r) (qs := x57) (xs := xs') ?_ hxf
      have h63 : Sat ((ownS 1 qs (M2.queue.map intv) * (ownS 2 x10 (ts.flatMap fun x => [.int .i64 x.2.time, slv x.1]) * (Sl.all ts (fun x => putsA x.1 x.2.puts) * ownS 1 x20 ((M.queue.take i).map intv)))) * (mgrO (some ⟨a, 0, none⟩) (some ⟨b, 0, none⟩) (some ⟨c, 0, none⟩) r x57 xs' { M2 with queue := M.queue.drop i, out := 0 } * R)) w62 := h62.eq (by unfold mgrO; ac_rfl)
      exact h63.right
    refine bsplit_decide.2 ⟨fun hc0 => ?_, fun hc0 => ?_⟩
    · have h24 := hwm.eq (mul_assoc' _ _ _)
      refine ⟨M1.num, (objA_cells h24).1 5, objA_storeT (i := 5) h24 (by simp [mcells]) fun w48 h48 => ?_⟩
      rw [mn, wrap_of (by omega) (by omega)] at h48
      have hset : (mcells (some ⟨b, 0, none⟩) (some ⟨c, 0, none⟩) r qs M1).set 5 (.int .i64 (M.num + 1)) = mcells (some ⟨b, 0, none⟩) (some ⟨c, 0, none⟩) r qs { M1 with num := M.num + 1 } := rfl
      rw [hset] at h48
      exact tail w48 { M1 with num := M.num + 1 } (by rw [if_pos hc0]) (h48.eq (by unfold mgrO; ac_rfl))
    · refine tail w23 M1 (by rw [if_neg hc0, ← mn]) hwm
end Go.Proofs.YtbolgpjcmchfoaaGreat
