/- Contracts of functions that only look. -/
import Derived.Test.YtbolgpjcmchfoaaGreatF1
import Derived.Test.YtbolgpjcmchfoaaGreatMa
namespace Go.Proofs.YtbolgpjcmchfoaaGreat
open Go Go.Vc Go.Sl Go.Mo
theorem gone_none {w : World} {K : Bool → World → Prop} (hk : K true w) : c_extmap_Map_gone none w K := extmap_Map_gone_go (by simpa [f_extmap_Map_gone, bsplit] using hk)
theorem gone_some {ad : Addr} {n : Int} {w : World} {K : Bool → World → Prop} (h : w.cell? ad = some (.int .i64 n)) (hk : K (decide (n = 0)) w) : c_extmap_Map_gone (some ad) w K :=
  extmap_Map_gone_go (by simpa [f_extmap_Map_gone, bsplit, onP_some, h] using hk)
theorem blocks_some {ad : Addr} {n : Int} {w : World} {K : Int → World → Prop} (h : w.cell? ad = some (.int .i64 n)) (hk : K n w) : c_extmap_Map_Blocks (some ad) w K :=
  extmap_Map_Blocks_go (by simpa [f_extmap_Map_Blocks, bsplit, onP_some, h] using hk)
theorem block_some {ad : Addr} {n lba : Int} {w : World} {K : Bool → World → Prop} (h : w.cell? ad = some (.int .i64 n)) (hk : K (decide (0 ≤ lba ∧ lba < n)) w) : c_extmap_Map_block (some ad) lba w K := by
  refine extmap_Map_block_go (bsplit_decide.2 ⟨fun h0 => blocks_some h ?_, fun h0 => ?_⟩)
  · simpa [h0] using hk
  · simpa [h0] using hk
theorem room_some {ad : Addr} {n : Int} {w : World} {K : Int → World → Prop} (h : w.cell? ad = some (.int .i64 n)) (hk : K n w) : c_horizon_Book_room (some ad) w K :=
  horizon_Book_room_go (by simpa [f_horizon_Book_room, bsplit, onP_some, h] using hk)
theorem may_c {a : Ext} {w : World} {K : Bool → World → Prop} (hk : ∀ w', Keep w w' → K (may a) w') : c_ival_may a.first a.len w K := by
  have hk' := hk _ (Keep.alloc w (.cells #[.int .i64 a.first, .int .i64 a.len] 56))
  refine ival_may_go ?_
  simp [f_ival_may, withW_iff, bsplit_decide]
  refine ⟨fun h1 => ⟨fun h2 => ⟨fun h3 => ⟨fun h4 => ?_, fun h4 => ?_⟩, fun h3 => ?_⟩, fun h2 => ?_⟩, fun h1 => ?_⟩
  · rw [wrap_of (by omega) (by omega)]
    simpa [may, h1, h2, h3, h4] using hk'
  · have : may a = false := by simp [may]; omega
    simpa [this] using hk'
  · have : may a = false := by simp [may]; omega
    simpa [this] using hk'
  · have : may a = false := by simp [may]; omega
    simpa [this] using hk'
  · have : may a = false := by simp [may]; omega
    simpa [this] using hk'
theorem meet_c {a b : Ext} {w : World} {K : Bool → World → Prop} (ha : may a = true) (hb : may b = true) (hk : ∀ w', Keep w w' → K (meet a b) w') : c_ival_meet a.first a.len b.first b.len w K := by
  have hk' := hk _ ((Keep.alloc w (.cells #[.int .i64 a.first, .int .i64 a.len] 56)).trans (Keep.alloc _ (.cells #[.int .i64 b.first, .int .i64 b.len] 56)))
  refine ival_meet_go ?_
  simp [may] at ha hb
  simp [f_ival_meet, withW_iff, World.cell?_alloc_lt, bsplit_decide]
  rw [wrap_of (by omega) (by omega), wrap_of (by omega) (by omega)]
  refine ⟨fun h1 => ?_, fun h1 => ?_⟩
  · simpa [meet, h1] using hk'
  · have : meet a b = false := by simp [meet]; omega
    simpa [this] using hk'
theorem round_c {k n : Int} {w : World} {K : Int → World → Prop} (hn : 0 < n) (hn' : n ≤ 2 ^ 61) (hk : K (k % n) w) : c_scarpalike_Round k n w K := by
  refine scarpalike_Round_go ⟨rfl, by omega, bsplit_decide.2 ⟨fun h => ?_, fun h => ?_⟩⟩
  · rw [withI_iff]
    have h1 : -n < k.tmod n := Int.lt_tmod_of_pos k hn
    rw [wrap_of (by omega) (by omega)]
    have : k.tmod n + n = k % n := by
      rw [Int.tmod_eq_emod] at h ⊢
      split at h
      · have := Int.emod_nonneg k (b := n) (by omega); omega
      · rename_i h'; rw [if_neg h']; simp only [Int.natAbs_of_nonneg (Int.le_of_lt hn)]; omega
    rw [this]; exact hk
  · have : k.tmod n = k % n := by
      rw [Int.tmod_eq_emod] at h ⊢
      split
      · omega
      · rename_i h'; rw [if_neg h'] at h
        have := Int.emod_lt_of_pos k hn
        simp only [Int.natAbs_of_nonneg (Int.le_of_lt hn)] at h; omega
    rw [this]; exact hk
def byteB (k : Int) (i : Nat) : UInt8 := UInt8.ofNat ((IntKind.i64.wrap ((IntKind.i64.wrap ((IntKind.i64.wrap ((i : Int) * i)) + (IntKind.i64.wrap (k * 7)))) + 1)) % 251).toNat
def blockB (n : Nat) (k : Int) : List UInt8 := (List.range n).map (byteB k)
theorem u8_byte {x : Int} (h0 : 0 ≤ x) (h : x < 251) : IntKind.u8.wrap x = ((UInt8.ofNat x.toNat).toNat : Int) := by
  have : (UInt8.ofNat x.toNat).toNat = x.toNat := by simp [UInt8.toNat_ofNat']; omega
  rw [this]
  simp [IntKind.wrap, IntKind.bits, IntKind.signed]
  omega
theorem block_c {n : Nat} {k : Int} {R : HP} {w : World} {K : SV → World → Prop} (hn : n ≤ 2 ^ 40) (h : Sat R w) (hk : ∀ s w', s.n = n → Sat (ownS 1 s (bytesV (blockB n k)) * R) w' → K s w') : c_scarpalike_Block n k w K := by
  refine scarpalike_Block_go ?_
  have e : (if (0 : Int) > (n : Int) then 0 else (n : Int)) = n := by split <;> omega
  unfold f_scarpalike_Block
  rw [e]
  refine ⟨by omega, Int.le_refl _, by omega, by omega, ?_⟩
  have hz : zrow [Value.int .u8 0] n = List.replicate n (.int .u8 0) := by
    clear hk hn e
    induction n with
    | zero => rfl
    | succ n ih => simp [zrow, ih, List.replicate_succ]
  simp only [Int.toNat_natCast, withW_iff, hz]
  have h1 := h.alloc (.cells (List.replicate n (Value.int .u8 0)).toArray 5)
  generalize w.heap.size = b at h1 ⊢
  refine loop_i (fun (x : Int) w' => ∃ i : Nat, x = i ∧ i ≤ n ∧ Sat (pt b (.cells (bytesV (blockB i k) ++ List.replicate (n - i) (Value.int .u8 0)).toArray 5) * R) w') (fun x _ => n - x.toNat) ⟨0, rfl, by omega, by simpa [blockB, bytesV] using h1⟩ ?_
  rintro x w' ⟨i, rfl, hi, hw⟩
  refine bsplit_decide.2 ⟨fun hlt => ?_, fun hge => ?_⟩
  · have hlt' : i < n := by omega
    refine round_c (by omega) (by omega) ⟨by omega, hlt, ?_⟩
    simp only [add_mk, Nat.zero_add, Nat.mul_one, Int.toNat_natCast]
    refine ⟨⟨?_, hw.frozen _⟩, trivial, ?_⟩
    · rw [hw.cell]
      exact exists_get (by simp [blockB, bytesV]; omega)
    · refine ⟨⟨i + 1, by rw [wrap_of (by omega) (by omega)]; omega, by omega, ?_⟩, by rw [wrap_of (by omega) (by omega)]; omega⟩
      have h2 := hw.setCell i (.int .u8 (IntKind.u8.wrap ((IntKind.i64.wrap ((IntKind.i64.wrap ((IntKind.i64.wrap ((i : Int) * i)) + (IntKind.i64.wrap (k * 7)))) + 1)) % 251)))
      refine h2.eq ?_
      congr 2
      rw [List.setIfInBounds_toArray]
      congr 1
      congr 1
      have e1 : n - i = (n - (i + 1)) + 1 := by omega
      rw [e1, List.replicate_succ, List.set_append_right _ _ (by simp [blockB, bytesV])]
      have e2 : i - (bytesV (blockB i k)).length = 0 := by simp [blockB, bytesV]
      rw [e2]
      have e3 : blockB (i + 1) k = blockB i k ++ [byteB k i] := by simp [blockB, List.range_succ]
      rw [e3, u8_byte (Int.emod_nonneg _ (by omega)) (Int.emod_lt_of_pos _ (by omega))]
      simp [byteB, bytesV]
  · obtain rfl : i = n := by omega
    refine hk _ _ rfl ?_
    refine ownS_mk (sp := []) (t := 5) (by simpa using hw) ?_ (Nat.le_refl _) ?_
    · simp [bytesV, blockB]
    · simp [bytesV, blockB]
theorem data_c {k : Int} {R : HP} {w : World} {K : SV → World → Prop} (h : Sat R w) (hk : ∀ s w', s.n = 40 → Sat (ownS 1 s (bytesV (blockB 40 k)) * R) w' → K s w') : c_scarpalike_Data k w K :=
  scarpalike_Data_go (block_c (n := 40) (by omega) h hk)
theorem blockB_length (n : Nat) (k : Int) : (blockB n k).length = n := by simp [blockB]
theorem u8_inj {a b : UInt8} (h : (a.toNat : Int) = b.toNat) : a = b := UInt8.toNat_inj.1 (by omega)
theorem bytes_c {s t : SV} {l m : List UInt8} {w : World} {K : Bool → World → Prop} (hs : bytesOn (hp w) s l) (ht : bytesOn (hp w) t m) (hl : l.length ≤ 2 ^ 60) (hk : ∀ w', Keep w w' → K (decide (l = m)) w') : c_scarpalike_Bytes s t w K := by
  refine scarpalike_Bytes_go ?_
  unfold f_scarpalike_Bytes
  rw [hs.1, ht.1]
  refine bsplit_iff.2 ⟨fun h => ?_, fun h => ?_⟩
  · have : ¬ l = m := by rintro rfl; simp at h
    simpa [this] using hk w (Keep.refl w)
  have hlen : l.length = m.length := by simp at h; omega
  refine loop_i (fun (x : Bool × Int) w' => ∃ i : Nat, x.2 = i ∧ i ≤ l.length ∧ Keep w w' ∧ ∀ j (h1 : j < l.length) (h2 : j < m.length), j < i → l[j] = m[j]) (fun x _ => l.length - x.2.toNat) ⟨0, rfl, by omega, Keep.refl w, fun j _ _ h => by omega⟩ ?_
  rintro ⟨b, x⟩ w' ⟨i, hx, hi, hw, hall⟩
  simp only at hx; subst hx
  refine bsplit_decide.2 ⟨fun hlt => ?_, fun hge => ?_⟩
  · have hlt' : i < l.length := by simp at hlt; omega
    obtain ⟨a1, ha1, hc1⟩ := bytesOn_get (bytesOn_le (keep_le hw) hs) hlt'
    obtain ⟨a2, ha2, hc2⟩ := bytesOn_get (bytesOn_le (keep_le hw) ht) (show i < m.length by omega)
    simp only [withW_iff, Int.toNat_natCast, Nat.mul_one]
    refine ⟨by omega, by omega, onP_i ha1 ⟨_, hc1, by omega, by omega, onP_i ha2 ⟨_, hc2, bsplit_iff.2 ⟨fun h => ?_, fun h => ?_⟩⟩⟩⟩
    · have : ¬ l = m := by
        rintro rfl; simp at h
      simpa [this] using hk _ (hw.trans (Keep.drew w'))
    · have he : l[i] = m[i] := u8_inj (by simpa using h)
      refine ⟨⟨i + 1, by rw [wrap_of (by omega) (by omega)]; rfl, by omega, hw.trans (Keep.drew w'), fun j h1 h2 hj => ?_⟩, by rw [wrap_of (by omega) (by omega)]; omega⟩
      rcases Nat.lt_succ_iff_lt_or_eq.1 hj with h' | h'
      · exact hall j h1 h2 h'
      · subst h'; exact he
  · have : l = m := List.ext_getElem hlen fun j h1 h2 => hall j h1 h2 (by simp at hge; omega)
    simpa [this] using hk _ hw
theorem all_one_bytes (l : List UInt8) : (bytesV l).all one = true := by simp [bytesV, one]
/-- A copy of a row: the library's slices.Clone, whatever the elements. -/
theorem clone_i {sz bytes e : Nat} {z vs : List Value} {s : SV} {R : HP} {w : World} {K : SV → World → Prop} (h : Sat R w) (hl : rowOn (hp w) s vs) (hn : vs.length = s.n * sz) (h1 : vs.all one = true) (hc : s.n * bytes ≤ 2 ^ 44) (hb : 0 < bytes ∧ bytes ≤ 2 ^ 20) (hz : z.length = sz) (hsz : 0 < sz)
    (hk : ∀ s' w', s'.n = s.n → Sat (ownS sz s' vs * R) w' → K s' w') :
    bsplit (s.a).isNone (K ⟨none, 0, 0⟩ w) (withW (w.alloc (.cells #[] e)) fun w1 => appendR ⟨some ⟨w.heap.size, 0, none⟩, 0, 0⟩ s sz bytes z e w1 fun s2 w3 => K ⟨s2.a, s2.n, s2.c⟩ w3) := by
  refine bsplit_iff.2 ⟨fun hs => ?_, fun hs => ?_⟩
  · have : vs = [] := hl.1 (by simpa using hs)
    subst this
    have h0 : s.n = 0 := by
      have : s.n * sz = 0 := by simpa using hn.symm
      rcases Nat.mul_eq_zero.1 this with h | h <;> omega
    exact hk _ _ h0.symm (ownS_nil h rfl rfl)
  · rw [withW_iff]
    have k1 := Keep.alloc w (.cells #[] e)
    refine append_own (vs := []) (R := R) (news := vs) (ownS_nil (k1.sat h) rfl rfl) hn h1 (rowOn_cells (rowOn_le (keep_le k1) hl)) (fun ha => ?_) (by simpa using hc) hb hz fun s' w' hs' hw' => ?_
    · rw [ha] at hs; simp at hs
    · exact hk s' w' (by simpa using hs') (by simpa using hw')
theorem clone_bytes {s : SV} {l : List UInt8} {R : HP} {w : World} {K : SV → World → Prop} (h : Sat R w) (hl : bytesOn (hp w) s l) (hc : l.length ≤ 2 ^ 40) (hk : ∀ s' w', s'.n = l.length → Sat (ownS 1 s' (bytesV l) * R) w' → K s' w') : c_slices_Clone_byte_byte s w K :=
  slices_Clone_byte_byte_go (clone_i h hl.2 (by simp [bytesV, hl.1]) (all_one_bytes l) (by rw [hl.1]; omega) (by omega) rfl (by omega) fun s' w' e hs => hk s' w' (e.trans hl.1) hs)
end Go.Proofs.YtbolgpjcmchfoaaGreat
