/- The part of the contracts that this seat has. -/
import Derived.Test.YtbolgpjcmchfoaaF1
import Derived.Test.YtbolgpjcmchfoaaW
import Derived.Test.YtbolgpjcmchfoaaLk
/- Contracts of the program functions up to the manager. -/
/- Contracts of functions that only look. -/
namespace Go.Proofs.Ytbolgpjcmchfoaa
open Go Go.Vc Go.Sl Go.Mo
theorem gone_none {w : World} {K : Bool → World → Prop} (hk : K true w) : c_extmap_Map_gone none w K := extmap_Map_gone_go (by simpa [f_extmap_Map_gone, bsplit] using hk)
theorem gone_some {ad : Addr} {n : Int} {w : World} {K : Bool → World → Prop} (h : w.cell? ad = some (.int .i64 n)) (hk : K (decide (n = 0)) w) : c_extmap_Map_gone (some ad) w K :=
  extmap_Map_gone_go (by simpa [f_extmap_Map_gone, bsplit, onP_some, h] using hk)
theorem blocks_some {ad : Addr} {n : Int} {w : World} {K : Int → World → Prop} (h : w.cell? ad = some (.int .i64 n)) (hk : K n w) : c_extmap_Map_Blocks (some ad) w K :=
  extmap_Map_Blocks_go (by simpa [f_extmap_Map_Blocks, bsplit, onP_some, h] using hk)
theorem block_some {ad : Addr} {n lba : Int} {w : World} {K : Bool → World → Prop} (h : w.cell? ad = some (.int .i64 n)) (hk : K (decide (0 ≤ lba ∧ lba < n)) w) : c_extmap_Map_block (some ad) lba w K := by
  refine extmap_Map_block_go (bsplit_decide.2 ⟨fun h0 => blocks_some h ?_, fun h0 => ?_⟩)
  · simpa [h0] using hk
  · simpa [h0] using hk
theorem may_c {a : Ext} {w : World} {K : Bool → World → Prop} (hk : ∀ w', Keep w w' → K (may a) w') : c_ival_may a.first a.len w K := by
  have hk' := hk _ (Keep.alloc w (.cells #[.int .i64 a.first, .int .i64 a.len] 44))
  refine ival_may_go ?_
  simp [f_ival_may, withW_iff, bsplit_decide]
  refine ⟨fun h1 => ⟨fun h2 => ⟨fun h3 => ⟨fun h4 => ?_, fun h4 => ?_⟩, fun h3 => ?_⟩, fun h2 => ?_⟩, fun h1 => ?_⟩
  · rw [wrap_of (by omega) (by omega)]
    simpa [may, h1, h2, h3, h4] using hk'
  · have : may a = false := by simp [may]; omega
    simpa [this] using hk'
  · have : may a = false := by simp [may]; omega
    simpa [this] using hk'
  · have : may a = false := by simp [may]; omega
    simpa [this] using hk'
  · have : may a = false := by simp [may]; omega
    simpa [this] using hk'
theorem meet_c {a b : Ext} {w : World} {K : Bool → World → Prop} (ha : may a = true) (hb : may b = true) (hk : ∀ w', Keep w w' → K (meet a b) w') : c_ival_meet a.first a.len b.first b.len w K := by
  have hk' := hk _ ((Keep.alloc w (.cells #[.int .i64 a.first, .int .i64 a.len] 44)).trans (Keep.alloc _ (.cells #[.int .i64 b.first, .int .i64 b.len] 44)))
  refine ival_meet_go ?_
  simp [may] at ha hb
  simp [f_ival_meet, withW_iff, World.cell?_alloc_lt, bsplit_decide]
  rw [wrap_of (by omega) (by omega), wrap_of (by omega) (by omega)]
  refine ⟨fun h1 => ?_, fun h1 => ?_⟩
  · simpa [meet, h1] using hk'
  · have : meet a b = false := by simp [meet]; omega
    simpa [this] using hk'
theorem round_c {k n : Int} {w : World} {K : Int → World → Prop} (hn : 0 < n) (hn' : n ≤ 2 ^ 61) (hk : K (k % n) w) : c_scarpalike_Round k n w K := by
  refine scarpalike_Round_go ⟨rfl, by omega, bsplit_decide.2 ⟨fun h => ?_, fun h => ?_⟩⟩
  · rw [withI_iff]
    have h1 : -n < k.tmod n := Int.lt_tmod_of_pos k hn
    rw [wrap_of (by omega) (by omega)]
    have : k.tmod n + n = k % n := by
      rw [Int.tmod_eq_emod] at h ⊢
      split at h
      · have := Int.emod_nonneg k (b := n) (by omega); omega
      · rename_i h'; rw [if_neg h']; simp only [Int.natAbs_of_nonneg (Int.le_of_lt hn)]; omega
    rw [this]; exact hk
  · have : k.tmod n = k % n := by
      rw [Int.tmod_eq_emod] at h ⊢
      split
      · omega
      · rename_i h'; rw [if_neg h'] at h
        have := Int.emod_lt_of_pos k hn
        simp only [Int.natAbs_of_nonneg (Int.le_of_lt hn)] at h; omega
    rw [this]; exact hk
def byteB (k : Int) (i : Nat) : UInt8 := UInt8.ofNat ((IntKind.i64.wrap ((IntKind.i64.wrap ((IntKind.i64.wrap ((i : Int) * i)) + (IntKind.i64.wrap (k * 7)))) + 1)) % 251).toNat
def blockB (n : Nat) (k : Int) : List UInt8 := (List.range n).map (byteB k)
theorem u8_byte {x : Int} (h0 : 0 ≤ x) (h : x < 251) : IntKind.u8.wrap x = ((UInt8.ofNat x.toNat).toNat : Int) := by
  have : (UInt8.ofNat x.toNat).toNat = x.toNat := by simp [UInt8.toNat_ofNat']; omega
  rw [this]
  simp [IntKind.wrap, IntKind.bits, IntKind.signed]
  omega
theorem block_c {n : Nat} {k : Int} {R : HP} {w : World} {K : SV → World → Prop} (hn : n ≤ 2 ^ 40) (h : Sat R w) (hk : ∀ s w', s.n = n → Sat (ownS 1 s (bytesV (blockB n k)) * R) w' → K s w') : c_scarpalike_Block n k w K := by
  refine scarpalike_Block_go ?_
  have e : (if (0 : Int) > (n : Int) then 0 else (n : Int)) = n := by split <;> omega
  unfold f_scarpalike_Block
  rw [e]
  refine ⟨by omega, Int.le_refl _, by omega, by omega, ?_⟩
  have hz : zrow [Value.int .u8 0] n = List.replicate n (.int .u8 0) := by
    clear hk hn e
    induction n with
    | zero => rfl
    | succ n ih => simp [zrow, ih, List.replicate_succ]
  simp only [Int.toNat_natCast, withW_iff, hz]
  have h1 := h.alloc (.cells (List.replicate n (Value.int .u8 0)).toArray 5)
  generalize w.heap.size = b at h1 ⊢
  refine loop_i (fun (x : Int) w' => ∃ i : Nat, x = i ∧ i ≤ n ∧ Sat (pt b (.cells (bytesV (blockB i k) ++ List.replicate (n - i) (Value.int .u8 0)).toArray 5) * R) w') (fun x _ => n - x.toNat) ⟨0, rfl, by omega, by simpa [blockB, bytesV] using h1⟩ ?_
  rintro x w' ⟨i, rfl, hi, hw⟩
  refine bsplit_decide.2 ⟨fun hlt => ?_, fun hge => ?_⟩
  · have hlt' : i < n := by omega
    refine round_c (by omega) (by omega) ⟨by omega, hlt, ?_⟩
    simp only [add_mk, Nat.zero_add, Nat.mul_one, Int.toNat_natCast]
    refine ⟨⟨?_, hw.frozen _⟩, trivial, ?_⟩
    · rw [hw.cell]
      exact exists_get (by simp [blockB, bytesV]; omega)
    · refine ⟨⟨i + 1, by rw [wrap_of (by omega) (by omega)]; omega, by omega, ?_⟩, by rw [wrap_of (by omega) (by omega)]; omega⟩
      have h2 := hw.setCell i (.int .u8 (IntKind.u8.wrap ((IntKind.i64.wrap ((IntKind.i64.wrap ((IntKind.i64.wrap ((i : Int) * i)) + (IntKind.i64.wrap (k * 7)))) + 1)) % 251)))
      refine h2.eq ?_
      congr 2
      rw [List.setIfInBounds_toArray]
      congr 1
      congr 1
      have e1 : n - i = (n - (i + 1)) + 1 := by omega
      rw [e1, List.replicate_succ, List.set_append_right _ _ (by simp [blockB, bytesV])]
      have e2 : i - (bytesV (blockB i k)).length = 0 := by simp [blockB, bytesV]
      rw [e2]
      have e3 : blockB (i + 1) k = blockB i k ++ [byteB k i] := by simp [blockB, List.range_succ]
      rw [e3, u8_byte (Int.emod_nonneg _ (by omega)) (Int.emod_lt_of_pos _ (by omega))]
      simp [byteB, bytesV]
  · obtain rfl : i = n := by omega
    refine hk _ _ rfl ?_
    refine ownS_mk (sp := []) (t := 5) (by simpa using hw) ?_ (Nat.le_refl _) ?_
    · simp [bytesV, blockB]
    · simp [bytesV, blockB]
theorem data_c {k : Int} {R : HP} {w : World} {K : SV → World → Prop} (h : Sat R w) (hk : ∀ s w', s.n = 40 → Sat (ownS 1 s (bytesV (blockB 40 k)) * R) w' → K s w') : c_scarpalike_Data k w K :=
  scarpalike_Data_go (block_c (n := 40) (by omega) h hk)
theorem blockB_length (n : Nat) (k : Int) : (blockB n k).length = n := by simp [blockB]
theorem u8_inj {a b : UInt8} (h : (a.toNat : Int) = b.toNat) : a = b := UInt8.toNat_inj.1 (by omega)
theorem all_one_bytes (l : List UInt8) : (bytesV l).all Vc.one = true := by simp [bytesV, Vc.one]
/-- A copy of a row: the library's slices.Clone, whatever the elements. -/
theorem clone_i {sz bytes e : Nat} {z vs : List Value} {s : SV} {R : HP} {w : World} {K : SV → World → Prop} (h : Sat R w) (hl : rowOn (hp w) s vs) (hn : vs.length = s.n * sz) (h1 : vs.all Vc.one = true) (hc : s.n * bytes ≤ 2 ^ 44) (hb : 0 < bytes ∧ bytes ≤ 2 ^ 20) (hz : z.length = sz) (hsz : 0 < sz)
    (hk : ∀ s' w', s'.n = s.n → Sat (ownS sz s' vs * R) w' → K s' w') :
    bsplit (s.a).isNone (K ⟨none, 0, 0⟩ w) (withW (w.alloc (.cells #[] e)) fun w1 => appendR ⟨some ⟨w.heap.size, 0, none⟩, 0, 0⟩ s sz bytes z e w1 fun s2 w3 => K ⟨s2.a, s2.n, s2.c⟩ w3) := by
  refine bsplit_iff.2 ⟨fun hs => ?_, fun hs => ?_⟩
  · have : vs = [] := hl.1 (by simpa using hs)
    subst this
    have h0 : s.n = 0 := by
      have : s.n * sz = 0 := by simpa using hn.symm
      rcases Nat.mul_eq_zero.1 this with h | h <;> omega
    exact hk _ _ h0.symm (ownS_nil h rfl rfl)
  · rw [withW_iff]
    have k1 := Keep.alloc w (.cells #[] e)
    refine append_own (vs := []) (R := R) (news := vs) (ownS_nil (k1.sat h) rfl rfl) hn h1 (rowOn_cells (rowOn_le (keep_le k1) hl)) (fun ha => ?_) (by simpa using hc) hb hz fun s' w' hs' hw' => ?_
    · rw [ha] at hs; simp at hs
    · exact hk s' w' (by simpa using hs') (by simpa using hw')
theorem clone_bytes {s : SV} {l : List UInt8} {R : HP} {w : World} {K : SV → World → Prop} (h : Sat R w) (hl : bytesOn (hp w) s l) (hc : l.length ≤ 2 ^ 40) (hk : ∀ s' w', s'.n = l.length → Sat (ownS 1 s' (bytesV l) * R) w' → K s' w') : c_slices_Clone_byte_byte s w K :=
  slices_Clone_byte_byte_go (clone_i h hl.2 (by simp [bytesV, hl.1]) (all_one_bytes l) (by rw [hl.1]; omega) (by omega) rfl (by omega) fun s' w' e hs => hk s' w' (e.trans hl.1) hs)
end Go.Proofs.Ytbolgpjcmchfoaa
/- Contracts of functions that look at lists of puts. -/
namespace Go.Proofs.Ytbolgpjcmchfoaa
open Go Go.Vc Go.Sl Go.Mo
abbrev putB (s : SV) (call : Int → SV → World → (Bool → World → Prop) → Prop) (x : Int) (w : World) (K : Bool → World → Prop) : Prop :=
  0 ≤ x ∧ x < ((s.n : Nat) : Int) ∧ onP s.a fun p => ∃ g : Int × SV, (w.cell? (p.add (x.toNat * 2)) = some (.int .i64 g.1) ∧ w.cell? ((p.add (x.toNat * 2)).add 1) = some (.slice g.2.a g.2.n g.2.c)) ∧ call g.1 g.2 w K
/-- slices.IndexFunc on puts, for whatever predicate. -/
theorem find_puts {s : SV} {l : List Put} {w : World} {p : Put → Bool} {call : Int → SV → World → (Bool → World → Prop) → Prop} {post : Int → World → Prop} (hl : putsOn (hp w) s l) (hn : l.length ≤ 2 ^ 60)
    (hcall : ∀ (x : Put) (_ : x ∈ l) (d : SV) (w' : World) (K : Bool → World → Prop), Keep w w' → bytesOn (hp w') d x.data → (∀ w'', Keep w' w'' → K (p x) w'') → call x.lba d w' K)
    (hk : ∀ r w', Keep w w' → decide (0 ≤ r) = l.any p → post r w') :
    loopR (α := Int × Int) (0, 0) w fun x1 w2 next3 => bsplit (decide ((x1.2 : Int) < ((s.n : Nat) : Int))) (putB s call x1.2 w2 fun b w7 => bsplit b (post x1.2 w7) (next3 (x1.1, IntKind.i64.wrap (x1.2 + 1)) w7)) (post (-1) w2) := by
  have hsn := hl.1
  refine loop_i (fun (x : Int × Int) w' => ∃ i : Nat, x.2 = i ∧ i ≤ l.length ∧ Keep w w' ∧ ∀ j (h1 : j < l.length), j < i → p l[j] = false) (fun x _ => l.length - x.2.toNat) ⟨0, rfl, by omega, Keep.refl w, fun j _ h => by omega⟩ ?_
  rintro ⟨y, x⟩ w' ⟨i, hx, hi, hw, hall⟩
  simp only at hx; subst hx
  refine bsplit_decide.2 ⟨fun hlt => ?_, fun hge => ?_⟩
  · have hlt' : i < l.length := by simp at hlt; omega
    obtain ⟨ad, d, ha, h1, h2, h3⟩ := (putsOn_le (keep_le hw) hl).2 i hlt'
    refine ⟨by omega, by omega, onP_i ha ⟨(l[i].lba, d), ⟨h1, h2⟩, hcall l[i] (List.getElem_mem hlt') d w' _ hw h3 fun w'' hw'' => bsplit_iff.2 ⟨fun hp => ?_, fun hp => ?_⟩⟩⟩
    · refine hk _ _ (hw.trans hw'') ?_
      have : l.any p = true := List.any_eq_true.2 ⟨l[i], List.getElem_mem hlt', hp⟩
      simp [this]
    · refine ⟨⟨i + 1, by rw [wrap_of (by omega) (by omega)]; rfl, by omega, hw.trans hw'', fun j h1 hj => ?_⟩, by rw [wrap_of (by omega) (by omega)]; omega⟩
      rcases Nat.lt_succ_iff_lt_or_eq.1 hj with h' | h'
      · exact hall j h1 h'
      · subst h'; exact hp
  · refine hk _ _ hw ?_
    have : l.any p = false := by
      rw [List.any_eq_false]
      intro x hx
      obtain ⟨j, hj, rfl⟩ := List.getElem_of_mem hx
      simpa using hall j hj (by simp at hge; omega)
    rw [this]; rfl
theorem len2_c {x : Put} {d : SV} {w : World} {K : Bool → World → Prop} (hd : bytesOn (hp w) d x.data) (hk : ∀ w', Keep w w' → K (badLen x) w') : c_extmap_Map_Apply_1 x.lba d w K := by
  refine extmap_Map_Apply_1_go ?_
  have := hk _ (Keep.alloc w (.cells #[.int .i64 x.lba, .slice d.a d.n d.c] 53))
  simp only [f_extmap_Map_Apply_1, withW_iff, add_mk, World.cell?_alloc_new]
  refine ⟨d, by simp, ?_⟩
  have e : (!decide (((d.n : Nat) : Int) = 40)) = badLen x := by rw [hd.1]; unfold badLen; congr 1; exact decide_eq_decide.2 (by omega)
  rw [e]; exact this
theorem lens2_c {s : SV} {l : List Put} {w : World} {K : Bool → World → Prop} (hl : putsOn (hp w) s l) (hn : l.length ≤ 2 ^ 60) (hk : ∀ w', Keep w w' → K (l.any badLen) w') : c_slices_ContainsFunc_api_Put_api_Put_at_extmap_Map_Apply_1 s w K := by
  refine slices_ContainsFunc_api_Put_api_Put_at_extmap_Map_Apply_1_go ?_
  refine slices_IndexFunc_api_Put_api_Put_at_extmap_Map_Apply_1_go ?_
  exact find_puts (post := fun r w => K (decide (0 ≤ r)) w) (call := fun a d w K => c_extmap_Map_Apply_1 a d w K) hl hn (fun x _ d w' K _ hd hk => len2_c hd hk) fun r w' hw hr => by rw [hr]; exact hk w' hw
theorem pairwise_adj {l : List Int} (h : ∀ i (h : i + 1 < l.length), l[i] < l[i + 1]) : l.Pairwise (· < ·) := by
  induction l with
  | nil => exact List.Pairwise.nil
  | cons a r ih =>
    have hr := ih fun i hi => h (i + 1) (by simpa using hi)
    refine List.pairwise_cons.2 ⟨fun b hb => ?_, hr⟩
    cases r with
    | nil => simp at hb
    | cons c q =>
      have h0 : a < c := h 0 (by simp)
      rcases List.mem_cons.1 hb with e | e
      · rw [e]; exact h0
      · exact Int.lt_trans h0 ((List.pairwise_cons.1 hr).1 b e)
theorem rise_c {s : SV} {l : List Put} {w : World} {K : Bool → World → Prop} (hl : putsOn (hp w) s l) (hn : l.length ≤ 2 ^ 60) (hk : ∀ w', Keep w w' → K (riseM l) w') : c_extmap_rise s w K := by
  refine extmap_rise_go ?_
  have hsn := hl.1
  refine loop_i (fun (x : Bool × Int) w' => ∃ i : Nat, x.2 = i ∧ 1 ≤ i ∧ (i ≤ l.length ∨ i = 1) ∧ Keep w w' ∧ ∀ j (h1 : j + 1 < l.length), j + 1 < i → l[j].lba < l[j + 1].lba) (fun x _ => l.length - x.2.toNat) ⟨1, rfl, by omega, by omega, Keep.refl w, fun j _ h => by omega⟩ ?_
  rintro ⟨y, x⟩ w' ⟨i, hx, h1i, hi, hw, hall⟩
  simp only at hx; subst hx
  refine bsplit_decide.2 ⟨fun hlt => ?_, fun hge => ?_⟩
  · have hlt' : i < l.length := by simp at hlt; omega
    have e1 : IntKind.i64.wrap ((i : Int) - 1) = ((i - 1 : Nat) : Int) := by rw [wrap_of (by omega) (by omega)]; omega
    obtain ⟨ad, d, ha, h1, _, _⟩ := (putsOn_le (keep_le hw) hl).2 i hlt'
    obtain ⟨ad', d', ha', h1', _, _⟩ := (putsOn_le (keep_le hw) hl).2 (i - 1) (by omega)
    simp only [withW_iff, e1]
    refine ⟨by omega, by omega, onP_i ha ⟨_, h1, by omega, by omega, onP_i ha' ⟨_, h1', bsplit_decide.2 ⟨fun h => ?_, fun h => ?_⟩⟩⟩⟩
    · have : riseM l = false := by
        unfold riseM
        rw [decide_eq_false_iff_not]
        rintro ⟨_, hp⟩
        have := List.pairwise_iff_getElem.1 hp (i - 1) i (by simp; omega) (by simpa using hlt') (by omega)
        simp only [List.getElem_map] at this
        omega
      rw [← this]; exact hk _ (hw.trans (Keep.drew w'))
    · refine ⟨⟨i + 1, by rw [wrap_of (by omega) (by omega)]; rfl, by omega, by omega, hw.trans (Keep.drew w'), fun j h1 hj => ?_⟩, by rw [wrap_of (by omega) (by omega)]; omega⟩
      rcases Nat.lt_succ_iff_lt_or_eq.1 hj with h' | h'
      · exact hall j h1 h'
      · subst h'; simp only [Nat.add_sub_cancel] at h; omega
  · have : riseM l = decide (0 < ((s.n : Nat) : Int)) := by
      have hp : (l.map Put.lba).Pairwise (· < ·) := pairwise_adj fun j hj => by
        simp only [List.length_map] at hj
        simpa using hall j hj (by simp at hge; omega)
      unfold riseM
      simp only [hp, and_true]
      exact decide_eq_decide.2 (by omega)
    rw [← this]; exact hk _ hw
end Go.Proofs.Ytbolgpjcmchfoaa
/- Contracts of the write buffer: what it takes in. -/
namespace Go.Proofs.Ytbolgpjcmchfoaa
open Go Go.Vc Go.Sl Go.Mo
/-- A variable of two cells that is laid and written at once. -/
theorem box2 {z1 z2 v1 v2 : Value} {t : Nat} {R : HP} {w : World} {K : World → Prop} (h : Sat R w) (hk : ∀ w', Keep w w' → Sat (objA (some ⟨w.heap.size, 0, none⟩) [v1, v2] * R) w' → K w') :
    withW (w.alloc (.cells #[z1, z2] t)) fun w7 => (((∃ u, w7.cell? (⟨w.heap.size, 0, none⟩ : Addr) = some u) ∧ w7.frozen? (⟨w.heap.size, 0, none⟩ : Addr) = false) ∧ ((∃ u, w7.cell? ((⟨w.heap.size, 0, none⟩ : Addr).add 1) = some u) ∧ w7.frozen? ((⟨w.heap.size, 0, none⟩ : Addr).add 1) = false)) ∧ (true = true) ∧
      withW ((w7.setCell (⟨w.heap.size, 0, none⟩ : Addr) v1).setCell ((⟨w.heap.size, 0, none⟩ : Addr).add 1) v2) K := by
  have h1 : Sat (objA (some ⟨w.heap.size, 0, none⟩) [z1, z2] * R) (w.alloc (.cells [z1, z2].toArray t)) := objA_new h
  have hw : Sat (objA (some ⟨w.heap.size, 0, none⟩) [z1, z2] * whole w) (w.alloc (.cells [z1, z2].toArray t)) := objA_new (sat_whole w)
  obtain ⟨hc, hf⟩ := objA_cells h1
  rw [withW_iff, add_mk, Nat.zero_add]
  refine ⟨⟨⟨⟨z1, hc 0⟩, hf 0⟩, ⟨z2, hc 1⟩, hf 1⟩, rfl, ?_⟩
  have h2 := objA_set (objA_set h1 0 v1) 1 v2
  have hw2 := objA_set (objA_set hw 0 v1) 1 v2
  exact hk _ (Keep.whole hw2.right) h2
theorem take_succ_map {l : List Put} {i : Nat} (h : i < l.length) : (l.take (i + 1)).map Put.lba = (l.take i).map Put.lba ++ [l[i].lba] := by
  rw [List.take_succ_eq_append_getElem h, List.map_append, List.map_cons, List.map_nil]
theorem putsIn_take {d : List (Int × List UInt8)} {l : List Put} {i : Nat} (h : i < l.length) : putsIn d (l.take (i + 1)) = put (putsIn d (l.take i)) l[i].lba l[i].data := by
  unfold putsIn
  rw [List.take_succ_eq_append_getElem h, List.foldl_append]; rfl
theorem newOnes_take {d : List (Int × List UInt8)} {l : List Put} {i : Nat} (h : i < l.length) : newOnes d (l.take (i + 1)) = newOnes d (l.take i) + if (lkp d l[i].lba).isNone then 1 else 0 := by
  unfold newOnes
  rw [List.take_succ_eq_append_getElem h, List.filter_append, List.length_append]
  congr 1
  simp only [List.filter_cons, List.filter_nil]
  split <;> simp_all
theorem newOnes_le (d : List (Int × List UInt8)) (l : List Put) : newOnes d l ≤ l.length := List.length_filter_le _ _
end Go.Proofs.Ytbolgpjcmchfoaa
/- Contracts of the book of times. -/
namespace Go.Proofs.Ytbolgpjcmchfoaa
open Go Go.Vc Go.Sl Go.Mo
def BookOk (B : Book) : Prop := (∀ p ∈ B.times, i64ok p.1) ∧ B.times.length ≤ 2 ^ 40
theorem book_ptr {p : Option Addr} {B : Book} {R : HP} {w : World} (h : Sat (bookA p B * R) w) : ∃ b, p = some ⟨b, 0, none⟩ := by
  obtain ⟨r, h1⟩ := bookA_open h
  obtain ⟨b, t, rfl, _⟩ := objA_open h1
  exact ⟨b, rfl⟩
theorem keys_intv (l : List (Int × Int)) : (on2 intv l).map Prod.fst = l.map Prod.fst := by simp [on2, Function.comp_def]
end Go.Proofs.Ytbolgpjcmchfoaa
/- Contracts of the write buffer: what it tells. -/
namespace Go.Proofs.Ytbolgpjcmchfoaa
open Go Go.Vc Go.Sl Go.Mo
theorem Sat.frame {A R : HP} {w w' : World} (h : Sat (A * whole w) w') (h0 : Sat R w) : Sat (A * R) w' := by
  obtain ⟨g, hg, h1, h2, hd, hu, ha, hw⟩ := h
  obtain ⟨g0, hg0, hr⟩ := h0
  have hle : ∀ b o, g0 b = some o → h2 b = some o := fun b o hb => by rw [hw b]; exact hg0 b o hb
  refine ⟨fun b => (h1 b).or (g0 b), fun b o hb => ?_, h1, g0, fun b => ?_, fun _ => rfl, ha, hr⟩
  · refine hg b o ?_
    rw [hu b]
    cases e : h1 b with
    | some x => simp only [e, Option.some_or] at hb ⊢; exact hb
    | none => simp only [e, Option.none_or] at hb ⊢; exact hle b o hb
  · rcases hd b with e | e
    · exact .inl e
    · refine .inr ?_
      cases e' : g0 b with
      | none => rfl
      | some o => rw [hle b o e'] at e; cases e
def BufOk (B : Buf) : Prop := (∀ p ∈ B.data, i64ok p.1 ∧ p.2.length ≤ 2 ^ 40) ∧ B.data.length ≤ 2 ^ 30
theorem buf_ptr {p : Option Addr} {B : Buf} {R : HP} {w : World} (h : Sat (bufA p B * R) w) : ∃ b, p = some ⟨b, 0, none⟩ := by
  obtain ⟨r, h1⟩ := bufA_open h
  obtain ⟨b, t, rfl, _⟩ := objA_open h1
  exact ⟨b, rfl⟩
theorem slmapA_map {β : Type} {A : SV → β → HP} {r : Nat} {l : List (Int × β)} {R : HP} {w : World} (h : Sat (slmapA A r l * R) w) : ∃ m, Sat (mapA r m * 1) w ∧ m.map Prod.fst = l.map Prod.fst := by
  obtain ⟨xs, rfl, h1⟩ := slmapA_open h
  exact ⟨_, h1.left.eq (mul_one' _).symm, by rw [keys_on2, keys_on2]⟩
theorem lkp_key {α : Type} {l : List (Int × α)} {k : Int} (h : k ∈ l.map Prod.fst) : ∃ v, lkp l k = some v := by
  cases e : lkp l k with
  | some v => exact ⟨v, rfl⟩
  | none => exact absurd h (lkp_none.1 e)
end Go.Proofs.Ytbolgpjcmchfoaa
/- Contracts of the sets of extents. -/
namespace Go.Proofs.Ytbolgpjcmchfoaa
open Go Go.Vc Go.Sl Go.Mo
/-- An extent as it stands in a set: no sum of its numbers wraps. -/
def okE (e : Ext) : Prop := 0 ≤ e.first ∧ 1 ≤ e.len ∧ e.first + e.len ≤ 1048577
theorem okE_may {e : Ext} (h : may e = true) : okE e := by
  simp [may] at h; unfold okE; omega
theorem meet_c' {a b : Ext} {w : World} {K : Bool → World → Prop} (ha : okE a) (hb : okE b) (hk : ∀ w', Keep w w' → K (meet a b) w') : c_ival_meet a.first a.len b.first b.len w K := by
  have hk' := hk _ ((Keep.alloc w (.cells #[.int .i64 a.first, .int .i64 a.len] 44)).trans (Keep.alloc _ (.cells #[.int .i64 b.first, .int .i64 b.len] 44)))
  refine ival_meet_go ?_
  unfold okE at ha hb
  simp [f_ival_meet, withW_iff, World.cell?_alloc_lt, bsplit_decide]
  rw [wrap_of (by omega) (by omega), wrap_of (by omega) (by omega)]
  refine ⟨fun h1 => ?_, fun h1 => ?_⟩
  · simpa [meet, h1] using hk'
  · have : meet a b = false := by simp [meet]; omega
    simpa [this] using hk'
abbrev extB (s : SV) (call : Int → Int → World → (Bool → World → Prop) → Prop) (x : Int) (w : World) (K : Bool → World → Prop) : Prop :=
  0 ≤ x ∧ x < ((s.n : Nat) : Int) ∧ onP s.a fun p => ∃ g : Int × Int, (w.cell? (p.add (x.toNat * 2)) = some (.int .i64 g.1) ∧ w.cell? ((p.add (x.toNat * 2)).add 1) = some (.int .i64 g.2)) ∧ call g.1 g.2 w K
theorem find_exts {s : SV} {l : List Ext} {w : World} {p : Ext → Bool} {call : Int → Int → World → (Bool → World → Prop) → Prop} {post : Int → World → Prop} (hl : extsOn (hp w) s l) (hn : l.length ≤ 2 ^ 60)
    (hcall : ∀ (x : Ext) (_ : x ∈ l) (w' : World) (K : Bool → World → Prop), Keep w w' → (∀ w'', Keep w' w'' → K (p x) w'') → call x.first x.len w' K)
    (hk : ∀ r w', Keep w w' → decide (0 ≤ r) = l.any p → post r w') :
    loopR (α := Int × Int) (0, 0) w fun x1 w2 next3 => bsplit (decide ((x1.2 : Int) < ((s.n : Nat) : Int))) (extB s call x1.2 w2 fun b w7 => bsplit b (post x1.2 w7) (next3 (x1.1, IntKind.i64.wrap (x1.2 + 1)) w7)) (post (-1) w2) := by
  have hsn := hl.1
  refine loop_i (fun (x : Int × Int) w' => ∃ i : Nat, x.2 = i ∧ i ≤ l.length ∧ Keep w w' ∧ ∀ j (h1 : j < l.length), j < i → p l[j] = false) (fun x _ => l.length - x.2.toNat) ⟨0, rfl, by omega, Keep.refl w, fun j _ h => by omega⟩ ?_
  rintro ⟨y, x⟩ w' ⟨i, hx, hi, hw, hall⟩
  simp only at hx; subst hx
  refine bsplit_decide.2 ⟨fun hlt => ?_, fun hge => ?_⟩
  · have hlt' : i < l.length := by simp at hlt; omega
    obtain ⟨ad, ha, h1, h2⟩ := (extsOn_le (keep_le hw) hl).2 i hlt'
    refine ⟨by omega, by omega, onP_i ha ⟨(l[i].first, l[i].len), ⟨h1, h2⟩, hcall l[i] (List.getElem_mem hlt') w' _ hw fun w'' hw'' => bsplit_iff.2 ⟨fun hp => ?_, fun hp => ?_⟩⟩⟩
    · refine hk _ _ (hw.trans hw'') ?_
      have : l.any p = true := List.any_eq_true.2 ⟨l[i], List.getElem_mem hlt', hp⟩
      simp [this]
    · refine ⟨⟨i + 1, by rw [wrap_of (by omega) (by omega)]; rfl, by omega, hw.trans hw'', fun j h1 hj => ?_⟩, by rw [wrap_of (by omega) (by omega)]; omega⟩
      rcases Nat.lt_succ_iff_lt_or_eq.1 hj with h' | h'
      · exact hall j h1 h'
      · subst h'; exact hp
  · refine hk _ _ hw ?_
    have : l.any p = false := by
      rw [List.any_eq_false]
      intro x hx
      obtain ⟨j, hj, rfl⟩ := List.getElem_of_mem hx
      simpa using hall j hj (by simp at hge; omega)
    rw [this]; rfl
theorem all1_c {x : Ext} {w : World} {K : Bool → World → Prop} (hk : ∀ w', Keep w w' → K (!may x) w') : c_ival_all_1 x.first x.len w K := by
  refine ival_all_1_go ?_
  simp only [f_ival_all_1, withW_iff]
  refine ⟨(x.first, x.len), ⟨by rw [World.cell?_alloc_new]; rfl, by rw [add_mk, World.cell?_alloc_new]; rfl⟩, may_c (a := x) fun w' kw => hk _ ((Keep.alloc _ _).trans kw)⟩
theorem all_c {s : SV} {l : List Ext} {w : World} {K : Bool → World → Prop} (hl : extsOn (hp w) s l) (hn : l.length ≤ 2 ^ 60) (hk : ∀ w', Keep w w' → K (l.all may) w') : c_ival_all s w K := by
  refine ival_all_go ?_
  refine slices_ContainsFunc_api_Extent_api_Extent_at_ival_all_1_go ?_
  refine slices_IndexFunc_api_Extent_api_Extent_at_ival_all_1_go ?_
  refine find_exts (p := fun x => !may x) (post := fun r w => K (!decide (0 ≤ r)) w) (call := fun a d w K => c_ival_all_1 a d w K) hl hn (fun x _ w' K _ hk => all1_c hk) fun r w' hw hr => ?_
  have : (!decide (0 ≤ r)) = l.all may := by rw [hr, List.any_eq_not_all_not]; simp
  rw [this]; exact hk w' hw
theorem meets1_c {x e : Ext} {c : Nat} {w : World} {K : Bool → World → Prop} (hx : okE x) (he : okE e) (h1 : w.cell? ⟨c, 0, none⟩ = some (.int .i64 e.first)) (h2 : w.cell? ⟨c, 1, none⟩ = some (.int .i64 e.len)) (hk : ∀ w', Keep w w' → K (meet x e) w') : c_ival_Set_Meets_1 x.first x.len (some ⟨c, 0, none⟩) w K := by
  refine ival_Set_Meets_1_go ?_
  simp only [f_ival_Set_Meets_1, withW_iff, onP_some]
  have k1 := Keep.alloc w (.cells #[.int .i64 x.first, .int .i64 x.len] 44)
  refine ⟨(x.first, x.len), ⟨by rw [World.cell?_alloc_new]; rfl, by rw [add_mk, World.cell?_alloc_new]; rfl⟩, (e.first, e.len), ⟨keep_cell k1 h1, by rw [add_mk]; exact keep_cell k1 h2⟩, meet_c' hx he fun w' kw => hk _ (k1.trans kw)⟩
theorem meetsF_c {s : SV} {l : List Ext} {e : Ext} {c : Nat} {w : World} {K : Bool → World → Prop} (hl : extsOn (hp w) s l) (hn : l.length ≤ 2 ^ 60) (hok : ∀ x ∈ l, okE x) (he : okE e) (h1 : w.cell? ⟨c, 0, none⟩ = some (.int .i64 e.first)) (h2 : w.cell? ⟨c, 1, none⟩ = some (.int .i64 e.len))
    (hk : ∀ w', Keep w w' → K (l.any fun x => meet x e) w') : c_slices_ContainsFunc_api_Extent_api_Extent_at_ival_Set_Meets_1 s (some ⟨c, 0, none⟩) w K := by
  refine slices_ContainsFunc_api_Extent_api_Extent_at_ival_Set_Meets_1_go ?_
  refine slices_IndexFunc_api_Extent_api_Extent_at_ival_Set_Meets_1_go ?_
  refine find_exts (p := fun x => meet x e) (post := fun r w => K (decide (0 ≤ r)) w) (call := fun a d w K => c_ival_Set_Meets_1 a d (some ⟨c, 0, none⟩) w K) hl hn (fun x hx w' K kw hk => meets1_c (hok x hx) he (keep_cell kw h1) (keep_cell kw h2) hk) fun r w' hw hr => ?_
  rw [hr]; exact hk w' hw
def SetOk (S : XSet) : Prop := (∀ x ∈ S.l, okE x) ∧ S.l.length ≤ 2 ^ 30
theorem set_ptr {p : Option Addr} {S : XSet} {R : HP} {w : World} (h : Sat (setA p S * R) w) : ∃ b, p = some ⟨b, 0, none⟩ := by
  obtain ⟨s, h1⟩ := setA_open h
  obtain ⟨b, t, rfl, _⟩ := objA_open h1
  exact ⟨b, rfl⟩
theorem set_meets {p : Option Addr} {S : XSet} {e : Ext} {R : HP} {w : World} {K : Bool → World → Prop} (h : Sat (setA p S * R) w) (ok : SetOk S) (hk : ∀ w', Keep w w' → K (may e && S.l.any fun x => meet x e) w') : c_ival_Set_Meets p e.first e.len w K := by
  obtain ⟨b, rfl⟩ := set_ptr h
  obtain ⟨s, h1⟩ := setA_open h
  refine ival_Set_Meets_go ?_
  unfold f_ival_Set_Meets
  rw [withW_iff]
  have k1 := Keep.alloc w (.cells #[.int .i64 e.first, .int .i64 e.len] 44)
  have hb : Sat (pt w.heap.size (.cells #[.int .i64 e.first, .int .i64 e.len] 44) * 1) (w.alloc (.cells #[.int .i64 e.first, .int .i64 e.len] 44)) := (h.one).alloc _
  generalize w.alloc (.cells #[.int .i64 e.first, .int .i64 e.len] 44) = w1 at k1 hb ⊢
  generalize w.heap.size = bx at hb ⊢
  have hc0 : w1.cell? ⟨bx, 0, none⟩ = some (.int .i64 e.first) := hb.cell 0
  have hc1 : w1.cell? ⟨bx, 1, none⟩ = some (.int .i64 e.len) := hb.cell 1
  refine bsplit_iff.2 ⟨fun e => (by cases e), fun _ => ⟨(e.first, e.len), ⟨hc0, by rw [add_mk]; exact hc1⟩, may_c (a := e) fun w4 k4 => bsplit_iff.2 ⟨fun hm => ?_, fun hm => ?_⟩⟩⟩
  · have hm' : may e = false := by simpa using hm
    simp only [hm', Bool.false_and] at hk
    exact hk _ (k1.trans k4)
  · have hm' : may e = true := by simpa using hm
    simp only [hm', Bool.true_and] at hk
    have h4 := (k1.trans k4).sat h1
    rw [onP_some, add_mk]
    refine ⟨s, (objA_cells h4).1 1, ?_⟩
    refine meetsF_c (extsA_on h4.right.left) (by have := ok.2; omega) ok.1 (okE_may hm') (keep_cell k4 hc0) (keep_cell k4 hc1) fun w' kw => hk _ ((k1.trans k4).trans kw)
theorem set_has {p : Option Addr} {S : XSet} {lba : Int} {R : HP} {w : World} {K : Bool → World → Prop} (h : Sat (setA p S * R) w) (ok : SetOk S) (hk : ∀ w', Keep w w' → K (XSet.has S lba) w') : c_ival_Set_Has p lba w K :=
  ival_Set_Has_go (set_meets (e := ⟨lba, 1⟩) h ok hk)
theorem clone_exts {s : SV} {l : List Ext} {R : HP} {w : World} {K : SV → World → Prop} (h : Sat R w) (hl : extsOn (hp w) s l) (hc : l.length ≤ 2 ^ 40) (hk : ∀ s' w', Sat (extsA s' l * R) w' → K s' w') : c_slices_Clone_api_Extent_api_Extent s w K :=
  slices_Clone_api_Extent_api_Extent_go (clone_i (vs := l.flatMap encE) h (extsOn_row hl) (by rw [encE_length, hl.1]) (encE_one l) (by rw [hl.1]; omega) (by omega) rfl (by omega) fun s' w' _ hs => hk s' w' hs)
theorem set_extents {p : Option Addr} {S : XSet} {R : HP} {w : World} {K : SV → World → Prop} (h : Sat (setA p S * R) w) (hl : S.l.length ≤ 2 ^ 40) (hk : ∀ s w', Sat (extsA s S.l * whole w) w' → K s w') : c_ival_Set_Extents p w K := by
  obtain ⟨b, rfl⟩ := set_ptr h
  obtain ⟨s, h1⟩ := setA_open h
  refine ival_Set_Extents_go (bsplit_iff.2 ⟨fun e => (by cases e), fun _ => ?_⟩)
  rw [onP_some, add_mk]
  exact ⟨s, (objA_cells h1).1 1, clone_exts (sat_whole w) (extsA_on h1.right.left) hl fun s' w' hs => hk _ _ hs⟩
theorem set_new {m : Int} {R : HP} {w : World} {K : Option Addr → World → Prop} (h : Sat R w) (hk : ∀ p w', Sat (setA p ⟨m, []⟩ * R) w' → K p w') : c_ival_New m w K := by
  refine ival_New_go ?_
  unfold f_ival_New
  rw [withW_iff]
  refine hk _ _ (setA_close (s := ⟨none, 0, 0⟩) ?_)
  have h1 : Sat (objA (some ⟨w.heap.size, 0, none⟩) [.int .i64 m, .slice none 0 0] * (extsA ⟨none, 0, 0⟩ [] * R)) (w.alloc (.cells [.int .i64 m, .slice none 0 0].toArray 77)) := objA_new (ownS_nil h rfl rfl)
  exact h1
theorem sumLen_take {l : List Ext} {i : Nat} (h : i < l.length) : sumLen (l.take (i + 1)) = sumLen (l.take i) + l[i].len := by
  unfold sumLen
  rw [List.take_succ_eq_append_getElem h, List.map_append, List.sum_append, List.map_cons, List.map_nil, List.sum_cons, List.sum_nil, Int.add_zero]
theorem sumLen_bound {l : List Ext} (ok : ∀ x ∈ l, okE x) : ∀ i, i ≤ l.length → (i : Int) ≤ sumLen (l.take i) ∧ sumLen (l.take i) ≤ i * 1048577
  | 0, _ => by simp [sumLen]
  | i + 1, h => by
    have := sumLen_bound ok i (by omega)
    rw [sumLen_take (by omega)]
    have h1 := ok l[i] (List.getElem_mem (by omega))
    unfold okE at h1
    omega
theorem set_count {p : Option Addr} {S : XSet} {R : HP} {w : World} {K : Int → World → Prop} (h : Sat (setA p S * R) w) (ok : SetOk S) (hk : ∀ w', Keep w w' → K (sumLen S.l) w') : c_ival_Set_Count p w K := by
  have hb := ok.2
  refine ival_Set_Count_go (set_extents h (by omega) fun s w2 hs => ?_)
  have hon := extsA_on hs.left
  have k0 : Keep w w2 := Keep.whole hs.right
  have hsn := hon.1
  refine loop_i (fun (x : Int × Int) w' => ∃ i : Nat, x = (sumLen (S.l.take i), (i : Int)) ∧ i ≤ S.l.length ∧ Keep w2 w') (fun x _ => S.l.length - x.2.toNat) ⟨0, rfl, by omega, Keep.refl w2⟩ ?_
  rintro x w4 ⟨i, rfl, hi, kw⟩
  refine bsplit_decide.2 ⟨fun hlt => ?_, fun hge => ?_⟩
  · have hlt' : i < S.l.length := by simp at hlt; omega
    obtain ⟨ad, ha, h1, h2⟩ := (extsOn_le (keep_le kw) hon).2 i hlt'
    refine ⟨by omega, by omega, onP_i ha ⟨(S.l[i].first, S.l[i].len), ⟨h1, h2⟩, box2 (sat_whole w4) fun w9 k9 h9 => ⟨S.l[i].len, by rw [add_mk]; exact (objA_cells h9).1 1, ?_⟩⟩⟩
    rw [withI_iff]
    have hs1 := sumLen_bound ok.1 i hi
    have hs2 := ok.1 S.l[i] (List.getElem_mem hlt')
    unfold okE at hs2
    have e1 : IntKind.i64.wrap ((i : Int) + 1) = ((i + 1 : Nat) : Int) := by rw [wrap_of (by omega) (by omega)]; omega
    refine ⟨⟨i + 1, ?_, by omega, kw.trans k9⟩, by simp only [e1]; omega⟩
    rw [sumLen_take hlt', e1, wrap_of (by omega) (by omega)]
  · obtain rfl : i = S.l.length := by simp at hge; omega
    rw [List.take_length]
    exact hk _ (k0.trans kw)
end Go.Proofs.Ytbolgpjcmchfoaa
/- Contracts of the sets of extents: what they take in. -/
namespace Go.Proofs.Ytbolgpjcmchfoaa
open Go Go.Vc Go.Sl Go.Mo
theorem exts_append {s b : SV} {l m : List Ext} {e : Nat} {R : HP} {w : World} {K : SV → World → Prop} (h : Sat (extsA s l * R) w) (hb : extsOn (hp w) b m) (hlen : l.length + m.length ≤ 2 ^ 36)
    (hk : ∀ s' w', Sat (extsA s' (l ++ m) * R) w' → K s' w') : appendR s b 2 16 [.int .i64 0, .int .i64 0] e w K := by
  have hn := extsA_n h
  refine append_own (news := m.flatMap encE) h (by rw [encE_length, hb.1]) (encE_one m) (rowOn_cells (extsOn_row hb)) (fun hno => ?_) (by rw [hn, hb.1]; omega) (by omega) rfl fun s' w' _ hw' => hk s' w' (by unfold extsA; rw [List.flatMap_append]; exact hw')
  have := (extsOn_row hb).1 hno
  have h2 := encE_length m
  rw [this] at h2
  have := hb.1
  simp at h2; omega
/-- One more extent, that lies in a block of its own. -/
theorem exts_push {s : SV} {l : List Ext} {x : Ext} {e b : Nat} {R : HP} {w : World} {K : SV → World → Prop} (h : Sat (extsA s l * R) w) (h1 : w.cell? ⟨b, 0, none⟩ = some (.int .i64 x.first)) (h2 : w.cell? ⟨b, 1, none⟩ = some (.int .i64 x.len)) (hlen : l.length + 1 ≤ 2 ^ 36)
    (hk : ∀ s' w', Sat (extsA s' (l ++ [x]) * R) w' → K s' w') : appendR s ⟨some ⟨b, 0, none⟩, 1, 1⟩ 2 16 [.int .i64 0, .int .i64 0] e w K := by
  refine exts_append (m := [x]) h ⟨rfl, fun i hi => ?_⟩ (by simpa using hlen) hk
  obtain rfl : i = 0 := by simpa using hi
  exact ⟨⟨b, 0, none⟩, rfl, h1, h2⟩
theorem grow_c {n : Nat} {R : HP} {w : World} {K : SV → World → Prop} (h : Sat R w) (hn : n ≤ 2 ^ 36) (hk : ∀ s w', Sat (extsA s [] * R) w' → K s w') : c_slices_Grow_api_Extent_api_Extent ⟨none, 0, 0⟩ (n : Int) w K := by
  refine slices_Grow_api_Extent_api_Extent_go ?_
  refine bsplit_decide.2 ⟨fun h0 => by omega, fun _ => ?_⟩
  rw [withI_iff]
  have e0 : IntKind.i64.wrap ((n : Int) - IntKind.i64.wrap (((0 : Nat) : Int) - ((0 : Nat) : Int))) = (n : Int) := by
    rw [wrap_of (x := ((0 : Nat) : Int) - ((0 : Nat) : Int)) (by omega) (by omega), wrap_of (by omega) (by omega)]; omega
  simp only [e0]
  refine bsplit_decide.2 ⟨fun h0 => ?_, fun h0 => hk _ _ (ownS_nil h rfl rfl)⟩
  refine ⟨by omega, by omega, by omega, ?_⟩
  refine ⟨by omega, by omega, by omega, by simp, by simp; omega, ?_, by omega, [], by simp, by simp [sub?], by simp, fun cap hcap => ⟨by omega, by omega, by omega, ?_⟩⟩
  · simp only [Int.toNat_natCast, Int.toNat_zero, Nat.sub_self]
    exact newCapOk_of (by omega) (by omega) (by omega)
  · have h1 := (h.alloc (.cells ([] ++ zrow [.int .i64 0, .int .i64 0] (n : Int).toNat ++ zrow [.int .i64 0, .int .i64 0] (cap - ((((0 : Nat) : Int)).toNat - (0 : Int).toNat + (n : Int).toNat))).toArray 44)).drew
    refine hk _ _ ?_
    have e1 : (sub? (some (⟨w.heap.size, 0, none⟩ : Addr)) (0 : Int).toNat cap 2) = some ⟨w.heap.size, 0, none⟩ := by
      unfold sub?
      split
      · rfl
      · simp
    show Sat (ownS 2 _ _ * R) _
    simp only [Int.toNat_natCast, Int.toNat_zero, Nat.sub_zero, Nat.sub_self, Nat.zero_add] at h1 hcap ⊢
    rw [show sub? (some (⟨w.heap.size, 0, none⟩ : Addr)) 0 cap 2 = some ⟨w.heap.size, 0, none⟩ from e1]
    refine ownS_mk (vs := []) (sp := zrow [.int .i64 0, .int .i64 0] n ++ zrow [.int .i64 0, .int .i64 0] (cap - n)) (t := 44) (by simpa using h1) (by simp) (by omega) ?_
    simp only [List.length_nil, List.length_append, zrow_length, List.length_cons]
    omega
theorem concat_c {s1 s2 : SV} {b : Nat} {l1 l2 : List Ext} {R : HP} {w : World} {K : SV → World → Prop} (h : Sat R w) (hc1 : w.cell? ⟨b, 0, none⟩ = some (slv s1)) (hc2 : w.cell? ⟨b, 1, none⟩ = some (slv s2)) (h1 : extsOn (hp w) s1 l1) (h2 : extsOn (hp w) s2 l2) (hlen : l1.length + l2.length ≤ 2 ^ 36)
    (hk : ∀ s w', Sat (extsA s (l1 ++ l2) * R) w' → K s w') : c_slices_Concat_api_Extent_api_Extent ⟨some ⟨b, 0, none⟩, 2, 2⟩ w K := by
  refine slices_Concat_api_Extent_api_Extent_go ?_
  have hn1 := h1.1
  have hn2 := h2.1
  have w01 : IntKind.i64.wrap ((0 : Int) + 1) = 1 := by rw [wrap_of (by omega) (by omega)]; rfl
  have w12 : IntKind.i64.wrap ((1 : Int) + 1) = 2 := by rw [wrap_of (by omega) (by omega)]; rfl
  have w1 : IntKind.i64.wrap 1 = 1 := wrap_of (by omega) (by omega)
  have w2 : IntKind.i64.wrap 2 = 2 := wrap_of (by omega) (by omega)
  -- the sizes
  refine loop_i (fun (x : Int × Int) w' => w' = w ∧ (x = (0, 0) ∨ x = (((l1.length : Nat) : Int), 1) ∨ x = (((l1.length + l2.length : Nat) : Int), 2))) (fun x _ => 2 - x.2.toNat) ⟨rfl, .inl rfl⟩ ?_
  rintro x w' ⟨rfl, rfl | rfl | rfl⟩
  · refine bsplit_decide.2 ⟨fun _ => ⟨by omega, by simp, ?_⟩, fun hge => by simp at hge⟩
    rw [onP_some]
    refine ⟨s1, hc1, ?_⟩
    rw [withI_iff, hn1, wrap_of (by omega) (by omega)]
    refine bsplit_decide.2 ⟨fun h0 => by omega, fun _ => ⟨⟨rfl, .inr (.inl (by simp [w1]))⟩, by simp [w1]⟩⟩
  · refine bsplit_decide.2 ⟨fun _ => ⟨by omega, by simp, ?_⟩, fun hge => by simp at hge⟩
    rw [onP_some]
    refine ⟨s2, hc2, ?_⟩
    rw [withI_iff, hn2, wrap_of (by omega) (by omega)]
    refine bsplit_decide.2 ⟨fun h0 => by omega, fun _ => ⟨⟨rfl, .inr (.inr (by simp [w2]))⟩, by simp [w2]⟩⟩
  refine bsplit_decide.2 ⟨fun hlt => by simp at hlt, fun _ => ?_⟩
  refine grow_c (sat_whole w') (by omega) fun s w8 h8 => ?_
  -- the rows
  refine loop_i (fun (x : SV × Int) v1 => (x.2 = 0 ∧ Sat (extsA x.1 [] * whole w') v1) ∨ (x.2 = 1 ∧ Sat (extsA x.1 l1 * whole w') v1) ∨ (x.2 = 2 ∧ Sat (extsA x.1 (l1 ++ l2) * whole w') v1)) (fun x _ => 2 - x.2.toNat) (.inl ⟨rfl, h8⟩) ?_
  rintro ⟨o, x⟩ v1 hx
  rcases hx with ⟨hx, hw⟩ | ⟨hx, hw⟩ | ⟨hx, hw⟩
  · simp only at hx; subst hx
    have kw : Keep w' v1 := Keep.whole hw.right
    refine bsplit_decide.2 ⟨fun _ => ⟨by omega, by simp, ?_⟩, fun hge => by simp at hge⟩
    rw [onP_some]
    refine ⟨s1, keep_cell kw hc1, exts_append hw (extsOn_le (keep_le kw) h1) (by simp; omega) fun s' v2 h2' => ⟨.inr (.inl ⟨w01, by simpa using h2'⟩), by simp [w1]⟩⟩
  · simp only at hx; subst hx
    have kw : Keep w' v1 := Keep.whole hw.right
    refine bsplit_decide.2 ⟨fun _ => ⟨by omega, by simp, ?_⟩, fun hge => by simp at hge⟩
    rw [onP_some]
    refine ⟨s2, keep_cell kw (hc2), exts_append hw (extsOn_le (keep_le kw) h2) (by omega) fun s' v2 h2' => ⟨.inr (.inr ⟨w12, h2'⟩), by simp [w2]⟩⟩
  · simp only at hx; subst hx
    refine bsplit_decide.2 ⟨fun hlt => by simp at hlt, fun _ => ?_⟩
    exact hk _ _ (Sat.frame hw h)
theorem joinE_ok {acc : List Ext} {e : Ext} (ha : ∀ x ∈ acc, okE x) (he : okE e) : ∀ x ∈ joinE acc e, okE x := by
  intro y hy
  cases acc with
  | nil => simp only [joinE, List.mem_singleton] at hy; subst hy; exact he
  | cons x r =>
    have hx := ha x (by simp)
    simp only [joinE] at hy
    unfold okE at hx he
    split at hy
    · rcases List.mem_cons.1 hy with h | h
      · subst h; unfold okE; simp only; omega
      · exact ha y (by simp [h])
    · rcases List.mem_cons.1 hy with h | h
      · subst h; exact he
      · exact ha y h
theorem foldl_joinE_ok {l acc : List Ext} (ha : ∀ x ∈ acc, okE x) (hl : ∀ x ∈ l, okE x) : ∀ x ∈ l.foldl joinE acc, okE x := by
  induction l generalizing acc with
  | nil => exact ha
  | cons e r ih => exact ih (joinE_ok ha (hl e (by simp))) fun x hx => hl x (by simp [hx])
theorem joinE_length (acc : List Ext) (e : Ext) : (joinE acc e).length ≤ acc.length + 1 := by
  cases acc with
  | nil => simp [joinE]
  | cons x r => simp only [joinE]; split <;> simp
theorem foldl_joinE_length (l acc : List Ext) : (l.foldl joinE acc).length ≤ acc.length + l.length := by
  induction l generalizing acc with
  | nil => simp
  | cons e r ih =>
    have := joinE_length acc e
    have := ih (joinE acc e)
    simp only [List.foldl_cons, List.length_cons]; omega
theorem joinM_ok {l : List Ext} (hl : ∀ x ∈ l, okE x) : ∀ x ∈ joinM l, okE x := by
  intro x hx
  unfold joinM at hx
  rw [List.mem_reverse] at hx
  exact foldl_joinE_ok (by simp) (fun y hy => hl y ((sortE_spec l).1.mem_iff.1 hy)) x hx
theorem joinM_length (l : List Ext) : (joinM l).length ≤ l.length := by
  unfold joinM
  have := foldl_joinE_length (sortE l) []
  rw [sortE_length] at this
  simpa using this
theorem joined_c {s : SV} {l : List Ext} {R : HP} {w : World} {K : SV → World → Prop} (h : Sat R w) (hl : extsOn (hp w) s l) (hn : l.length ≤ 2 ^ 30) (hok : ∀ x ∈ l, okE x) (hk : ∀ s' w', Sat (extsA s' (joinM l) * R) w' → K s' w') : c_ival_joined s w K := by
  refine ival_joined_go (clone_exts (sat_whole w) hl (by omega) fun s1 w2 h2 => sort_c h2 (by omega) fun w4 h4 => ?_)
  have hs1 := extsA_n h4
  have hsl := sortE_length l
  have hso : ∀ x ∈ sortE l, okE x := fun x hx => hok x ((sortE_spec l).1.mem_iff.1 hx)
  have hjm : joinM l = ((sortE l).foldl joinE []).reverse := rfl
  generalize sortE l = so at *
  refine loop_i (fun (x : SV × Int) w' => ∃ i : Nat, x.2 = i ∧ i ≤ so.length ∧ Sat (extsA x.1 ((so.take i).foldl joinE []).reverse * (extsA s1 so * whole w)) w') (fun x _ => so.length - x.2.toNat) ⟨0, rfl, by omega, ownS_nil h4 rfl rfl⟩ ?_
  rintro ⟨out, x⟩ w6 ⟨i, hx, hi, hw⟩
  simp only at hx; subst hx
  simp only at hw
  refine bsplit_decide.2 ⟨fun hlt => ?_, fun hge => ?_⟩
  · have hlt' : i < so.length := by simp at hlt; omega
    obtain ⟨ad, ha, hc1, hc2⟩ := (extsA_on hw.right.left).2 i hlt'
    refine ⟨by omega, by omega, onP_i ha ⟨(so[i].first, so[i].len), ⟨hc1, hc2⟩, box2 hw fun w11 k11 hw11 => ?_⟩⟩
    rw [withI_iff, withW_iff]
    have hwd := hw11.drew
    obtain ⟨acc, hacc⟩ : ∃ acc, (so.take i).foldl joinE [] = acc := ⟨_, rfl⟩
    have haok : ∀ x ∈ acc, okE x := hacc ▸ foldl_joinE_ok (by simp) fun x hx => hso x (List.mem_of_mem_take hx)
    have halen : acc.length ≤ i := by
      rw [← hacc]
      have := foldl_joinE_length (so.take i) []
      simp at this; omega
    have hnext : (so.take (i + 1)).foldl joinE [] = joinE acc so[i] := by
      rw [List.take_succ_eq_append_getElem hlt', List.foldl_append, hacc]; rfl
    rw [hacc] at hwd
    have hon : out.n = acc.length := by
      have := extsA_n hwd.right
      simpa using this
    have heo : okE so[i] := hso _ (List.getElem_mem hlt')
    generalize so[i] = e at *
    have e1 : IntKind.i64.wrap ((i : Int) + 1) = ((i + 1 : Nat) : Int) := by rw [wrap_of (by omega) (by omega)]; omega
    have en : IntKind.i64.wrap (((out.n : Nat) : Int) - 1) = (acc.length : Int) - 1 := by rw [hon, wrap_of (by omega) (by omega)]
    rw [en]
    have hb0 := (objA_cells hwd).1 0
    have hb1 := (objA_cells hwd).1 1
    generalize w6.heap.size = bx at hwd hb0 hb1 ⊢
    have push : ∀ acc', joinE acc e = e :: acc → acc' = acc → ∃ g : Int × Int, (w11.drew.cell? (⟨bx, 0, none⟩ : Addr) = some (.int .i64 g.1) ∧ w11.drew.cell? ((⟨bx, 0, none⟩ : Addr).add 1) = some (.int .i64 g.2)) ∧
        withW (w11.drew.alloc (.cells #[.int .i64 g.1, .int .i64 g.2] 44)) fun w38 => appendR out ⟨some ⟨w11.drew.heap.size, 0, none⟩, 1, 1⟩ 2 16 [.int .i64 0, .int .i64 0] 44 w38 fun s39 w40 =>
          (∃ i_1 : Nat, (IntKind.i64.wrap ((i : Int) + 1)) = i_1 ∧ i_1 ≤ so.length ∧ Sat (extsA ⟨s39.a, s39.n, s39.c⟩ ((so.take i_1).foldl joinE []).reverse * (extsA s1 so * whole w)) w40) ∧ so.length - (IntKind.i64.wrap ((i : Int) + 1)).toNat < so.length - (i : Int).toNat := by
      intro acc' hj _
      refine ⟨(e.first, e.len), ⟨hb0, by rw [add_mk]; exact hb1⟩, ?_⟩
      rw [withW_iff]
      have hwe := hwd.right.alloc (.cells #[.int .i64 e.first, .int .i64 e.len] 44)
      refine exts_push (x := e) (l := acc.reverse) hwe.right (hwe.cell 0) (hwe.cell 1) (by simp; omega) fun s' w' hs' => ⟨⟨i + 1, e1, by omega, ?_⟩, by rw [e1]; simp; omega⟩
      rw [hnext, hj, List.reverse_cons]
      exact hs'
    cases acc with
    | nil =>
      refine bsplit_decide.2 ⟨fun h0 => by simp at h0, fun _ => push [] rfl rfl⟩
    | cons x r =>
      have hxo := haok x (by simp)
      have hn1 : ((x :: r).length : Int) - 1 = (r.length : Nat) := by simp
      rw [hn1]
      have hcells : (x :: r).reverse.flatMap encE = r.reverse.flatMap encE ++ [.int .i64 x.first, .int .i64 x.len] := by
        rw [List.reverse_cons, List.flatMap_append]; rfl
      have hwd2 : Sat (extsA out (x :: r).reverse * (objA (some ⟨bx, 0, none⟩) [.int .i64 e.first, .int .i64 e.len] * (extsA s1 so * whole w))) w11.drew := hwd.eq (by ac_rfl)
      obtain ⟨ad2, ha2, hd1, hd2⟩ := (extsA_on hwd2.left).2 r.length (by simp)
      have hrl : (x :: r).reverse[r.length]'(by simp) = x := by simp
      rw [hrl] at hd1 hd2
      have hlt2 : ((r.length : Nat) : Int) < ((out.n : Nat) : Int) := by rw [hon]; simp; omega
      refine bsplit_decide.2 ⟨fun _ => ⟨e.first, hb0, by omega, hlt2, onP_i ha2 ⟨x.first, hd1, by omega, hlt2, onP_i ha2 ⟨x.len, hd2, bsplit_decide.2 ⟨fun hle => ?_, fun hgt => ?_⟩⟩⟩⟩, fun h0 => by omega⟩
      · unfold okE at hxo heo
        rw [wrap_of (by omega) (by omega)] at hle
        rw [withW_iff]
        have hwf := hwd2.drew
        refine ⟨fun w' => w' = w11.drew.drew, rfl, by omega, hlt2, onP_i ha2 ⟨x.len, fun w' e => e ▸ hd2, e.first, fun w' e => e ▸ hb0, e.len, fun w' e => by subst e; rw [add_mk]; exact hb1, by omega, hlt2, onP_i ha2 ⟨x.first, fun w' e => e ▸ hd1, by omega, hlt2, onP_i ha2 ?_⟩⟩⟩
        have ev : (if (IntKind.i64.wrap (IntKind.i64.wrap (e.first + e.len) - x.first) : Int) > x.len then IntKind.i64.wrap (IntKind.i64.wrap (e.first + e.len) - x.first) else x.len) = max x.len (e.first + e.len - x.first) := by
          rw [wrap_of (x := e.first + e.len) (by omega) (by omega), wrap_of (by omega) (by omega)]
          split <;> omega
        rw [ev]
        obtain ⟨b, hob, hst, hnew⟩ := ownS_store (pre := r.reverse.flatMap encE ++ [.int .i64 x.first]) (old := [.int .i64 x.len]) (post := []) (news := [.int .i64 (max x.len (e.first + e.len - x.first))]) hwf (by rw [hcells]; simp) rfl (by simp)
        rw [hob] at ha2; cases ha2
        have hpl : (r.reverse.flatMap encE ++ [Value.int .i64 x.first]).length = r.length * 2 + 1 := by rw [List.length_append, encE_length]; simp
        rw [hpl] at hst hnew
        simp only [storable, add_mk, Nat.add_zero] at hst
        simp only [storeAll, add_mk, Nat.add_zero] at hnew
        simp only [add_mk, Nat.zero_add, Int.toNat_natCast]
        refine ⟨hst, trivial, gen_w hnew fun w32 h32 => ⟨⟨i + 1, e1, by omega, ?_⟩, by rw [e1]; simp; omega⟩⟩
        rw [hnext]
        have hj : joinE (x :: r) e = ⟨x.first, max x.len (e.first + e.len - x.first)⟩ :: r := by simp only [joinE]; rw [if_pos hle]
        rw [hj]
        have hcells2 : (({ first := x.first, len := max x.len (e.first + e.len - x.first) } : Ext) :: r).reverse.flatMap encE = r.reverse.flatMap encE ++ [.int .i64 x.first] ++ [.int .i64 (max x.len (e.first + e.len - x.first))] ++ [] := by
          rw [List.reverse_cons, List.flatMap_append]; simp [encE]
        have : Sat (extsA out (({ first := x.first, len := max x.len (e.first + e.len - x.first) } : Ext) :: r).reverse * (objA (some ⟨bx, 0, none⟩) [.int .i64 e.first, .int .i64 e.len] * (extsA s1 so * whole w))) w32 := by
          unfold extsA
          rw [hcells2]
          exact h32
        exact (this.eq (by ac_rfl : _ = objA (some ⟨bx, 0, none⟩) [.int .i64 e.first, .int .i64 e.len] * (extsA out (({ first := x.first, len := max x.len (e.first + e.len - x.first) } : Ext) :: r).reverse * (extsA s1 so * whole w)))).right
      · unfold okE at hxo heo
        rw [wrap_of (by omega) (by omega)] at hgt
        exact push (x :: r) (by simp only [joinE]; rw [if_neg hgt]) rfl
  · obtain rfl : i = so.length := by simp at hge; omega
    rw [List.take_length] at hw
    rw [← hjm] at hw
    have : Sat (extsA s1 so * (extsA out (joinM l) * whole w)) w6 := hw.eq (by ac_rfl)
    exact hk _ _ (Sat.frame this.right h)
theorem set_add {p : Option Addr} {S : XSet} {s : SV} {l : List Ext} {R : HP} {w : World} {K : Int → World → Prop} (h : Sat (setA p S * R) w) (ok : SetOk S) (hl : extsOn (hp w) s l) (hn : S.l.length + l.length ≤ 2 ^ 30) (hk : ∀ w', Sat (setA p (S.add l).1 * R) w' → K (S.add l).2 w') : c_ival_Set_Add p s w K := by
  refine ival_Set_Add_go (all_c hl (by omega) fun w2 k2 => bsplit_iff.2 ⟨fun hm => ?_, fun hm => ?_⟩)
  · have : S.add l = (S, 1) := by unfold XSet.add; rw [if_pos (by simpa using hm)]
    rw [this] at hk; exact hk _ (k2.sat h)
  have hm' : ¬ l.all may = false := by simpa using hm
  have hln := hl.1
  refine bsplit_decide.2 ⟨fun h0 => ?_, fun h0 => ?_⟩
  · have : S.add l = (S, 0) := by unfold XSet.add; rw [if_neg hm', if_pos (by omega)]
    rw [this] at hk; exact hk _ (k2.sat h)
  have h0' : ¬ l.length = 0 := by omega
  obtain ⟨b, rfl⟩ := set_ptr h
  obtain ⟨s4, h2⟩ := setA_open (k2.sat h)
  refine bsplit_iff.2 ⟨fun e => (by cases e), fun _ => ?_⟩
  rw [onP_some, add_mk]
  refine ⟨s4, (objA_cells h2).1 1, ?_⟩
  rw [withW_iff]
  have h3 := h2.alloc (.cells #[.slice s4.a s4.n s4.c, .slice s.a s.n s.c] 23)
  have k3 := Keep.alloc w2 (.cells #[.slice s4.a s4.n s4.c, .slice s.a s.n s.c] 23)
  have hwh : ∀ x ∈ S.l ++ l, okE x := fun x hx => by
    rcases List.mem_append.1 hx with h' | h'
    · exact ok.1 x h'
    · exact okE_may (List.all_eq_true.1 (by simpa using hm') x h')
  refine concat_c (s1 := s4) (s2 := s) h3.right (h3.cell 0) (h3.cell 1) (extsA_on h3.right.right.left) (extsOn_le (keep_le (k2.trans k3)) hl) (by omega) fun s6 w7 h7 => ?_
  refine joined_c h7.right (extsA_on h7.left) (by simpa using hn) hwh fun s8 w9 h9 => ?_
  rw [onP_some]
  have h10 : Sat (objA (some ⟨b, 0, none⟩) [.int .i64 S.most, slv s4] * (extsA s8 (joinM (S.l ++ l)) * (extsA s4 S.l * R))) w9 := h9.eq (by ac_rfl)
  have hs8 := extsA_n h9
  refine ⟨S.most, (objA_cells h10).1 0, bsplit_decide.2 ⟨fun hbig => ?_, fun hbig => ?_⟩⟩
  · have : S.add l = (S, 7) := by unfold XSet.add; rw [if_neg hm', if_neg h0', if_pos (by omega)]
    rw [this] at hk
    exact hk _ (setA_close (s := s4) (h9.right))
  · have : S.add l = ({ S with l := joinM (S.l ++ l) }, 0) := by unfold XSet.add; rw [if_neg hm', if_neg h0', if_neg (by omega)]
    rw [this] at hk
    rw [onP_some, add_mk]
    refine objA_store h10 (by simp) fun w' h' => hk _ ?_
    have h'' : Sat (objA (some ⟨b, 0, none⟩) [.int .i64 S.most, slv s8] * (extsA s8 (joinM (S.l ++ l)) * (extsA s4 S.l * R))) w' := h'
    refine setA_close (S := { S with l := joinM (S.l ++ l) }) (s := s8) ?_
    exact (h''.eq (by ac_rfl : _ = extsA s4 S.l * (objA (some ⟨b, 0, none⟩) [.int .i64 S.most, slv s8] * (extsA s8 (joinM (S.l ++ l)) * R)))).right
theorem set_add_ok {S : XSet} {l : List Ext} (ok : SetOk S) (hn : S.l.length + l.length ≤ 2 ^ 30) : SetOk (S.add l).1 := by
  unfold XSet.add
  split
  · exact ok
  · rename_i hm
    split
    · exact ok
    · split
      · exact ok
      · refine ⟨joinM_ok fun x hx => ?_, ?_⟩
        · rcases List.mem_append.1 hx with h' | h'
          · exact ok.1 x h'
          · exact okE_may (List.all_eq_true.1 (by simpa using hm) x h')
        · have := joinM_length (S.l ++ l)
          simp only [List.length_append] at this
          simp only; omega
end Go.Proofs.Ytbolgpjcmchfoaa
/- Contracts of the map of versions: what it takes in. -/
namespace Go.Proofs.Ytbolgpjcmchfoaa
open Go Go.Vc Go.Sl Go.Mo
theorem xmap_ptr {p : Option Addr} {M : XMap} {R : HP} {w : World} (h : Sat (xmapA p M * R) w) : ∃ b, p = some ⟨b, 0, none⟩ := by
  obtain ⟨r, h1⟩ := xmapA_open h
  obtain ⟨b, t, rfl, _⟩ := objA_open h1
  exact ⟨b, rfl⟩
theorem xmap_new {n : Int} {R : HP} {w : World} {K : Option Addr × Int → World → Prop} (h : Sat R w) (hn : 1 ≤ n ∧ n ≤ 1048576) (hk : ∀ p w', Sat (xmapA p ⟨n, [], 0⟩ * R) w' → K (p, 0) w') : c_extmap_New n w K := by
  refine extmap_New_go (bsplit_decide.2 ⟨fun h0 => by omega, fun _ => bsplit_decide.2 ⟨fun h0 => by omega, fun _ => ?_⟩⟩)
  rw [withW_iff, withW_iff]
  have h1 : Sat (slmapA putsA w.heap.size [] * R) (w.alloc (.map #[] 0)) := slmapA_new h
  have h2 : Sat (objA (some ⟨(w.alloc (.map #[] 0)).heap.size, 0, none⟩) [.int .i64 n, .map (some w.heap.size), .int .i64 0] * (slmapA putsA w.heap.size [] * R)) ((w.alloc (.map #[] 0)).alloc (.cells [.int .i64 n, .map (some w.heap.size), .int .i64 0].toArray 56)) := objA_new h1
  exact hk _ _ (xmapA_close (M := ⟨n, [], 0⟩) h2)
theorem xmap_new_bad {n : Int} {w : World} {K : Option Addr × Int → World → Prop} (hn : n < 1 ∨ 1048576 < n) (hk : K (none, 1) w) : c_extmap_New n w K :=
  extmap_New_go (bsplit_decide.2 ⟨fun _ => hk, fun _ => bsplit_decide.2 ⟨fun _ => hk, fun _ => by omega⟩⟩)
theorem xmap_apply {B : Nat} {p : Option Addr} {M : XMap} {t : Tx} {s : SV} {R : HP} {w : World} {K : Int → World → Prop} (h : Sat (xmapA p M * R) w) (ok : XOk B M) (hB : B ≤ 2 ^ 30) (hs : ∀ w', Sat R w' → putsOn (hp w') s t.puts) (hn : t.puts.length ≤ 2 ^ 20)
    (hk : ∀ w', Sat (xmapA p (M.apply t).1 * R) w' → K (M.apply t).2 w') : c_extmap_Map_Apply p t.time s w K := by
  obtain ⟨bp, rfl⟩ := xmap_ptr h
  have hsn : s.n = t.puts.length := (hs w h.right).1
  refine extmap_Map_Apply_go ?_
  unfold f_extmap_Map_Apply
  rw [withW_iff]
  have h1 : Sat (objA (some ⟨w.heap.size, 0, none⟩) [.int .i64 t.time, slv s] * (xmapA (some ⟨bp, 0, none⟩) M * R)) (w.alloc (.cells [.int .i64 t.time, slv s].toArray 33)) := objA_new h
  change Sat _ (w.alloc (.cells #[.int .i64 t.time, .slice s.a s.n s.c] 33)) at h1
  generalize w.alloc _ = w1 at h1 ⊢
  generalize w.heap.size = bx at h1 ⊢
  obtain ⟨r, h2⟩ := xmapA_open (h1.eq (by ac_rfl : _ = xmapA (some ⟨bp, 0, none⟩) M * (objA (some ⟨bx, 0, none⟩) [.int .i64 t.time, slv s] * R)))
  have hx0 : ∀ w', Sat (objA (some ⟨bp, 0, none⟩) [.int .i64 M.blocks, .map (some r), .int .i64 M.last] * (slmapA putsA r M.vers * (objA (some ⟨bx, 0, none⟩) [.int .i64 t.time, slv s] * R))) w' → Sat (objA (some ⟨bx, 0, none⟩) [.int .i64 t.time, slv s] * (objA (some ⟨bp, 0, none⟩) [.int .i64 M.blocks, .map (some r), .int .i64 M.last] * (slmapA putsA r M.vers * R))) w' := fun w' hw => hw.eq (by ac_rfl)
  have hback : ∀ w', Sat (objA (some ⟨bp, 0, none⟩) [.int .i64 M.blocks, .map (some r), .int .i64 M.last] * (slmapA putsA r M.vers * (objA (some ⟨bx, 0, none⟩) [.int .i64 t.time, slv s] * R))) w' → Sat (xmapA (some ⟨bp, 0, none⟩) M * R) w' := fun w' hw => xmapA_close (hx0 w' hw).right
  refine gone_some ((objA_cells h2).1 0) (bsplit_decide.2 ⟨fun h0 => by have := ok.1.1; omega, fun _ => ?_⟩)
  rw [withW_iff]
  have h3 := h2.drew
  have hb := hx0 _ h3
  refine ⟨t.time, (objA_cells hb).1 0, ?_⟩
  rw [onP_some, add_mk]
  refine ⟨M.last, (objA_cells h3).1 2, bsplit_decide.2 ⟨fun hle => ?_, fun hle => ⟨t.time, (objA_cells hb).1 0, bsplit_decide.2 ⟨fun hgt => ?_, fun hgt => ?_⟩⟩⟩⟩
  · have : M.apply t = (M, 11) := by unfold XMap.apply; rw [if_pos (.inl hle)]
    rw [this] at hk; exact hk _ (hback _ h3)
  · have : M.apply t = (M, 11) := by unfold XMap.apply; rw [if_pos (.inr hgt)]
    rw [this] at hk; exact hk _ (hback _ h3)
  have c1 : ¬ (t.time ≤ M.last ∨ 1099511627776 < t.time) := by omega
  refine ⟨s, (objA_cells hb).1 1, rise_c (hs _ hb.right.right.right) (by omega) fun w11 k11 => bsplit_iff.2 ⟨fun hr => ?_, fun hr => ?_⟩⟩
  · have : M.apply t = (M, 1) := by unfold XMap.apply; rw [if_neg c1, if_pos (by simpa using hr)]
    rw [this] at hk; exact hk _ (hback _ (k11.sat h3))
  have hr' : riseM t.puts = true := by simpa using hr
  have c2 : ¬ riseM t.puts = false := by simp [hr']
  have hpos : 0 < t.puts.length := by unfold riseM at hr'; simp only [decide_eq_true_eq] at hr'; exact hr'.1
  have h4 := k11.sat h3
  have hb4 := hx0 _ h4
  obtain ⟨ad0, d0, ha0, hc0, _, _⟩ := (hs _ hb4.right.right.right).2 0 hpos
  refine ⟨s, (objA_cells hb4).1 1, by omega, by omega, onP_i ha0 ⟨t.puts[0].lba, hc0, ?_⟩⟩
  have hhead : t.puts.headD ⟨0, []⟩ = t.puts[0] := by
    rw [List.headD_eq_head?_getD, List.head?_eq_getElem?, List.getElem?_eq_getElem hpos]; rfl
  have hlast : t.puts.getLastD ⟨0, []⟩ = t.puts[t.puts.length - 1] := by
    rw [List.getLastD_eq_getLast?, List.getLast?_eq_getElem?, List.getElem?_eq_getElem (by omega)]; rfl
  refine block_some ((objA_cells h4).1 0) (bsplit_iff.2 ⟨fun hr => ?_, fun hr => ?_⟩)
  · have : M.apply t = (M, 2) := by
      unfold XMap.apply
      rw [if_neg c1, if_neg c2, if_pos (.inl (by rw [hhead]; unfold inB; simpa only [Bool.not_eq_true'] using hr))]
    rw [this] at hk; exact hk _ (hback _ h4)
  have hin0 : inB M t.puts[0].lba = true := by unfold inB; simpa only [Bool.not_eq_false'] using hr
  have e1 : IntKind.i64.wrap (((s.n : Nat) : Int) - 1) = ((t.puts.length - 1 : Nat) : Int) := by rw [hsn, wrap_of (by omega) (by omega)]; omega
  obtain ⟨ad1, d1, ha1, hc1, _, _⟩ := (hs _ hb4.right.right.right).2 (t.puts.length - 1) (by omega)
  refine ⟨s, (objA_cells hb4).1 1, s, (objA_cells hb4).1 1, ?_⟩
  rw [e1]
  refine ⟨by omega, by omega, onP_i ha1 ⟨t.puts[t.puts.length - 1].lba, hc1, ?_⟩⟩
  refine block_some ((objA_cells h4).1 0) (bsplit_iff.2 ⟨fun hr => ?_, fun hr => ?_⟩)
  · have : M.apply t = (M, 2) := by
      unfold XMap.apply
      rw [if_neg c1, if_neg c2, if_pos (.inr (by rw [hlast]; unfold inB; simpa only [Bool.not_eq_true'] using hr))]
    rw [this] at hk; exact hk _ (hback _ h4)
  have hin1 : inB M t.puts[t.puts.length - 1].lba = true := by unfold inB; simpa only [Bool.not_eq_false'] using hr
  have c3 : ¬ (inB M (t.puts.headD ⟨0, []⟩).lba = false ∨ inB M (t.puts.getLastD ⟨0, []⟩).lba = false) := by rw [hhead, hlast, hin0, hin1]; simp
  refine ⟨s, (objA_cells hb4).1 1, lens2_c (hs _ hb4.right.right.right) (by omega) fun w25 k25 => bsplit_iff.2 ⟨fun hr => ?_, fun hr => ?_⟩⟩
  · have : M.apply t = (M, 3) := by unfold XMap.apply; rw [if_neg c1, if_neg c2, if_neg c3, if_pos hr]
    rw [this] at hk; exact hk _ (hback _ (k25.sat h4))
  have hap : M.apply t = ({ M with vers := t.puts.foldl (addVer t.time) M.vers, last := t.time }, 0) := by unfold XMap.apply; rw [if_neg c1, if_neg c2, if_neg c3, if_neg (by simp [hr])]
  rw [hap] at hk
  have hb5 := hx0 _ (k25.sat h4)
  have hd40 : ∀ x ∈ t.puts, x.data.length = 40 := fun x hx => by
    have := List.any_eq_false.1 hr x hx
    simpa [badLen] using this
  refine ⟨s, (objA_cells hb5).1 1, ?_⟩
  have hkeys : ∀ i, i ≤ t.puts.length → ∀ k, ((lkp ((t.puts.take i).foldl (addVer t.time) M.vers) k).getD []).length ≤ B + i := by
    intro i
    induction i with
    | zero =>
      intro _ k
      cases e : lkp M.vers k with
      | none => simp [e]
      | some v => simp [e]; have := (ok.2.2 _ (lkp_mem e)).2.2.1; simpa using this
    | succ i ih =>
      intro hi k
      have := ih (by omega)
      rw [List.take_succ_eq_append_getElem (by omega), List.foldl_append]
      simp only [List.foldl_cons, List.foldl_nil, addVer]
      rw [lkp_put]
      split
      · simp only [Option.getD_some, versOf, List.length_append, List.length_singleton]
        have := this t.puts[i].lba; omega
      · have := this k; omega
  refine loop_i (fun (x : Int) w' => ∃ i : Nat, x = i ∧ i ≤ t.puts.length ∧ Sat (objA (some ⟨bx, 0, none⟩) [.int .i64 t.time, slv s] * (objA (some ⟨bp, 0, none⟩) [.int .i64 M.blocks, .map (some r), .int .i64 M.last] * (slmapA putsA r ((t.puts.take i).foldl (addVer t.time) M.vers) * R))) w') (fun x _ => t.puts.length - x.toNat) ⟨0, rfl, by omega, hb5⟩ ?_
  rintro x w2 ⟨i, rfl, hi, hw2⟩
  refine bsplit_decide.2 ⟨fun hlt => ?_, fun hge => ?_⟩
  · have hlt' : i < t.puts.length := by omega
    obtain ⟨ad, d, ha, hc1, hc2', hd⟩ := (hs _ hw2.right.right.right).2 i hlt'
    have hvl := hkeys i hi t.puts[i].lba
    have hnext : (t.puts.take (i + 1)).foldl (addVer t.time) M.vers = addVer t.time ((t.puts.take i).foldl (addVer t.time) M.vers) t.puts[i] := by
      rw [List.take_succ_eq_append_getElem hlt', List.foldl_append]; rfl
    generalize hvs : (t.puts.take i).foldl (addVer t.time) M.vers = vs at hw2 hvl hnext
    have hlen := hd40 _ (List.getElem_mem hlt')
    generalize t.puts[i] = u at *
    refine ⟨by omega, by omega, onP_i ha ⟨(u.lba, d), ⟨hc1, hc2'⟩, box2 hw2 fun w3 k3 hw3 => ?_⟩⟩
    rw [withW_iff]
    have hw4 := hw3.drew
    have hdb := bytesOn_le (keep_le (k3.trans (Keep.drew _))) hd
    have e2 : IntKind.i64.wrap ((i : Int) + 1) = ((i + 1 : Nat) : Int) := by rw [wrap_of (by omega) (by omega)]; omega
    generalize w2.heap.size = bu at hw4 ⊢
    -- what the operations read
    obtain ⟨es, cl, H, sv, hsv, h5, hput⟩ := slmapA_hole (A := putsA) (d0 := []) (fun R w hw => pairsA_nil hw rfl rfl) (hw4.eq (by ac_rfl : _ = slmapA putsA r vs * (objA (some ⟨bu, 0, none⟩) [.int .i64 u.lba, slv d] * (objA (some ⟨bx, 0, none⟩) [.int .i64 t.time, slv s] * (objA (some ⟨bp, 0, none⟩) [.int .i64 M.blocks, .map (some r), .int .i64 M.last] * R))))) u.lba
    obtain ⟨S, hS⟩ : ∃ S : World → Prop, S = fun w' => Sat (mapE r es cl * (objA (some ⟨bu, 0, none⟩) [.int .i64 u.lba, slv d] * (objA (some ⟨bx, 0, none⟩) [.int .i64 t.time, slv s] * objA (some ⟨bp, 0, none⟩) [.int .i64 M.blocks, .map (some r), .int .i64 M.last]))) w' := ⟨_, rfl⟩
    have toS : ∀ (X : HP) w', Sat (X * (mapE r es cl * (objA (some ⟨bu, 0, none⟩) [.int .i64 u.lba, slv d] * (objA (some ⟨bx, 0, none⟩) [.int .i64 t.time, slv s] * objA (some ⟨bp, 0, none⟩) [.int .i64 M.blocks, .map (some r), .int .i64 M.last])))) w' → S w' := fun X w' hw => by rw [hS]; exact hw.right
    have S1 : ∀ w', S w' → w'.cell? ⟨bp, 1, none⟩ = some (.map (some r)) := fun w' hw => by
      rw [hS] at hw
      exact (objA_cells (b := bp) (vs := [.int .i64 M.blocks, .map (some r), .int .i64 M.last]) (R := 1) (hw.right.right.right.eq (mul_one' _).symm)).1 1
    have S2 : ∀ w', S w' → w'.cell? ⟨bu, 0, none⟩ = some (.int .i64 u.lba) ∧ w'.cell? ⟨bu, 1, none⟩ = some (slv d) := fun w' hw => by
      rw [hS] at hw
      exact ⟨(objA_cells hw.right).1 0, (objA_cells hw.right).1 1⟩
    have S3 : ∀ w', S w' → w'.cell? ⟨bx, 0, none⟩ = some (.int .i64 t.time) := fun w' hw => by
      rw [hS] at hw
      exact (objA_cells hw.right.right).1 0
    have S4 : ∀ w', S w' → ∃ cl, mapAt w' r .i64 es cl := fun w' hw => by
      rw [hS] at hw
      exact ⟨cl, mapE_at hw⟩
    refine ⟨S, toS (putsA sv (versOf vs u.lba) * (H * R)) _ (h5.eq ?_), ?_⟩
    · unfold versOf; ac_rfl
    rw [onP_some, add_mk]
    refine ⟨some r, S1, u.lba, fun w' hw => (S2 w' hw).1, some r, S1, u.lba, fun w' hw => (S2 w' hw).1, rfl, ?_⟩
    rw [onM_some]
    refine ⟨es, S4, sv, hsv, t.time, S3, d, fun w' hw => (S2 w' hw).2, clone_bytes h5 hdb (by omega) fun s' w5 hs' hw5 => ⟨toS (ownS 1 s' (bytesV u.data) * (putsA sv (versOf vs u.lba) * (H * R))) _ (hw5.eq (by unfold versOf; ac_rfl)), ?_⟩⟩
    rw [withW_iff]
    have hw6 := hw5.alloc (.cells #[.int .i64 t.time, .slice s'.a s'.n s'.c] 64)
    have hc60 := hw6.cell 0
    have hc61 := hw6.cell 1
    generalize hbn : w5.heap.size = bn at hw6 hc60 hc61 ⊢
    have hw7 := hw6.right
    refine ⟨toS (ownS 1 s' (bytesV u.data) * (putsA sv (versOf vs u.lba) * (H * R))) _ (hw7.eq (by unfold versOf; ac_rfl)), ?_⟩
    have hvl' : (versOf vs u.lba).length ≤ B + i := hvl
    refine pairsA_push (num := Put.lba) (A := fun s x => byteRow s x.data) (x := (⟨t.time, u.data⟩ : Put)) (d := s') (l := versOf vs u.lba) (R := mapE r es cl * (H * (objA (some ⟨bu, 0, none⟩) [.int .i64 u.lba, slv d] * (objA (some ⟨bx, 0, none⟩) [.int .i64 t.time, slv s] * (objA (some ⟨bp, 0, none⟩) [.int .i64 M.blocks, .map (some r), .int .i64 M.last] * R))))) (hw7.eq ?_) ⟨hc60, hc61⟩ (by omega) (by omega) rfl fun s2 w8 hw8 => ?_
    · unfold versOf
      show ownS 1 s' (bytesV u.data) * (mapE r es cl * (putsA sv _ * _)) = putsA sv _ * (ownS 1 s' (bytesV u.data) * _)
      ac_rfl
    · change Sat (putsA s2 (versOf vs u.lba ++ [⟨t.time, u.data⟩]) * _) w8 at hw8
      refine ⟨toS (putsA s2 (versOf vs u.lba ++ [⟨t.time, u.data⟩]) * (H * R)) _ (hw8.eq (by ac_rfl)), rfl, ?_⟩
      rw [onM_some]
      obtain ⟨hm, hw9⟩ := hput (objA (some ⟨bu, 0, none⟩) [.int .i64 u.lba, slv d] * (objA (some ⟨bx, 0, none⟩) [.int .i64 t.time, slv s] * (objA (some ⟨bp, 0, none⟩) [.int .i64 M.blocks, .map (some r), .int .i64 M.last] * R))) w8 s2 (versOf vs u.lba ++ [⟨t.time, u.data⟩]) (hw8.eq (by ac_rfl))
      refine ⟨es, cl, hm, gen_w hw9 fun w9 hw9 => ⟨⟨i + 1, e2, by omega, ?_⟩, by rw [e2]; simp; omega⟩⟩
      rw [hnext]
      have : Sat (objA (some ⟨bu, 0, none⟩) [.int .i64 u.lba, slv d] * (objA (some ⟨bx, 0, none⟩) [.int .i64 t.time, slv s] * (objA (some ⟨bp, 0, none⟩) [.int .i64 M.blocks, .map (some r), .int .i64 M.last] * (slmapA putsA r (addVer t.time vs u) * R)))) w9 := hw9.eq (by unfold addVer; ac_rfl)
      exact this.right
  · obtain rfl : i = t.puts.length := by omega
    rw [List.take_length] at hw2
    refine ⟨t.time, (objA_cells hw2).1 0, ?_⟩
    rw [onP_some, add_mk]
    refine objA_store (vs := [.int .i64 M.blocks, .map (some r), .int .i64 M.last]) hw2.right (by simp) fun w' h' => hk _ ?_
    exact xmapA_close (M := { M with vers := t.puts.foldl (addVer t.time) M.vers, last := t.time }) h'
end Go.Proofs.Ytbolgpjcmchfoaa
/- Contracts of the map of versions: what was written, and how many versions there are. -/
namespace Go.Proofs.Ytbolgpjcmchfoaa
open Go Go.Vc Go.Sl Go.Mo
theorem xmap_written {B : Nat} {p : Option Addr} {M : XMap} {e : Ext} {after : Int} {R : HP} {w : World} {K : Bool → World → Prop} (h : Sat (xmapA p M * R) w) (ok : XOk B M) (hB : B ≤ 2 ^ 31)
    (hk : ∀ w', Keep w w' → K (M.written e after) w') : c_extmap_Map_Written p e.first e.len after w K := by
  obtain ⟨bp, rfl⟩ := xmap_ptr h
  refine extmap_Map_Written_go ?_
  unfold f_extmap_Map_Written
  rw [withW_iff]
  obtain ⟨r, h0⟩ := xmapA_open h
  have h1 : Sat (objA (some ⟨w.heap.size, 0, none⟩) [.int .i64 e.first, .int .i64 e.len] * (objA (some ⟨bp, 0, none⟩) [.int .i64 M.blocks, .map (some r), .int .i64 M.last] * (slmapA putsA r M.vers * R))) (w.alloc (.cells [.int .i64 e.first, .int .i64 e.len].toArray 44)) := objA_new h0
  have k1 := Keep.alloc w (.cells #[.int .i64 e.first, .int .i64 e.len] 44)
  change Sat _ (w.alloc (.cells #[.int .i64 e.first, .int .i64 e.len] 44)) at h1
  generalize w.alloc _ = w1 at h1 k1 ⊢
  generalize w.heap.size = bx at h1 ⊢
  have hno : may e = false → K false w1 := fun hm => by
    have := hk w1 k1
    unfold XMap.written at this
    simpa [hm] using this
  refine gone_some ((objA_cells h1.right).1 0) (bsplit_decide.2 ⟨fun h0 => by have := ok.1.1; omega, fun _ => ?_⟩)
  have c0 := (objA_cells h1).1 0
  have c1 := (objA_cells h1).1 1
  refine ⟨e.first, c0, bsplit_decide.2 ⟨fun a1 => hno (by simp [may]; omega), fun a1 => ⟨e.first, c0, bsplit_decide.2 ⟨fun a2 => hno (by simp [may]; omega), fun a2 => ⟨e.len, by rw [add_mk]; exact c1, bsplit_decide.2 ⟨fun a3 => hno (by simp [may]; omega), fun a3 =>
    ⟨e.len, by rw [add_mk]; exact c1, e.first, c0, ?_⟩⟩⟩⟩⟩⟩⟩
  rw [wrap_of (by omega) (by omega)]
  refine bsplit_decide.2 ⟨fun a4 => hno (by simp [may]; omega), fun a4 => ⟨e.len, by rw [add_mk]; exact c1, bsplit_decide.2 ⟨fun a5 => hno (by simp [may]; omega), fun a5 => ?_⟩⟩⟩
  have hm : may e = true := by simp [may]; omega
  rw [onP_some, add_mk]
  refine ⟨some r, (objA_cells h1.right).1 1, ?_⟩
  rw [onM_some]
  obtain ⟨es, cl, xs, mok, hxs, he1, he2, huniq, h2, _⟩ := slmapA_iter (h1.eq (by ac_rfl : _ = slmapA putsA r M.vers * (objA (some ⟨bx, 0, none⟩) [.int .i64 e.first, .int .i64 e.len] * (objA (some ⟨bp, 0, none⟩) [.int .i64 M.blocks, .map (some r), .int .i64 M.last] * R))))
  refine ⟨_, cl, h2.get, ?_⟩
  rw [withW_iff]
  have hit : Sat (iterP w1.heap.size r cl #[] * whole w1) (w1.alloc (.mapIter (some r) cl #[] cl)) := (sat_whole w1).alloc _
  have hcell : ∀ w', Sat (whole w1) w' → Keep w1 w' := fun w' hw => Keep.whole hw
  generalize w1.heap.size = it at hit ⊢
  have hmap : ∀ w', Sat (whole w1) w' → mapAt w' r .i64 es cl := fun w' hw => keep_heap (hcell w' hw) (mapE_at h2)
  refine loop_i (fun (x : Bool) w' => ∃ seen, Sat (iterP it r cl seen * whole w1) w' ∧ ∀ f ∈ es, f.b ∈ seen → ∀ s b, (f.k, (s, b)) ∈ xs → hitV e after (f.k, b) = false) (fun _ w' => match w'.heap[it]? with | some (.mapIter _ _ seen _) => left es seen | _ => 0) ⟨#[], hit, by simp⟩ ?_
  rintro x w4 ⟨seen, hw, hseen⟩
  have hleft : (match w4.heap[it]? with | some (.mapIter _ _ seen _) => left es seen | _ => 0) = left es seen := by rw [hw.get]
  rw [hleft]
  refine iter_step (enc := fun x : SV => .slice x.a x.n x.c) hw hmap mok (fun f hf => ?_) (fun f hf hfs x hx w' hw' => ?_) (fun hall w' hw' => ?_)
  · obtain ⟨s, b, _, hv⟩ := he1 f hf
    exact ⟨s, hv⟩
  · obtain ⟨s, b, hmem, hv⟩ := he1 f hf
    obtain rfl : x = s := by
      rw [hx] at hv; unfold slv at hv
      cases x; cases s; simp_all
    have kk := hcell w' hw'.right
    have hb : Sat (putsA x b) w1 := all_mem (A := fun x : Int × (SV × List Put) => putsA x.2.1 x.2.2) hmem h2.right.left
    have hbok : 0 < b.length ∧ b.length ≤ B := by
      have : (f.k, b) ∈ M.vers := hxs ▸ List.mem_map.2 ⟨(f.k, (x, b)), hmem, rfl⟩
      exact ⟨(ok.2.2 _ this).2.1, (ok.2.2 _ this).2.2.1⟩
    have hfk : 0 ≤ f.k ∧ f.k < 1048576 := by
      have : (f.k, b) ∈ M.vers := hxs ▸ List.mem_map.2 ⟨(f.k, (x, b)), hmem, rfl⟩
      have h3 := (ok.2.2 _ this).1
      have h4 := ok.1.2
      simp only at h3; omega
    have hlt : left es (seen.push f.b) < left es seen := left_lt hf hfs
    have hnew : (match w'.heap[it]? with | some (.mapIter _ _ seen _) => left es seen | _ => 0) < left es seen := by rw [hw'.get]; exact hlt
    have next : hitV e after (f.k, b) = false → (∃ seen, Sat (iterP it r cl seen * whole w1) w' ∧ ∀ f ∈ es, f.b ∈ seen → ∀ s b, (f.k, (s, b)) ∈ xs → hitV e after (f.k, b) = false) ∧ (match w'.heap[it]? with | some (.mapIter _ _ seen _) => left es seen | _ => 0) < left es seen := by
      intro hh
      refine ⟨⟨seen.push f.b, hw', fun g hg hgs s' b' hmem' => ?_⟩, hnew⟩
      rcases Array.mem_push.1 hgs with h3 | h3
      · exact hseen g hg h3 s' b' hmem'
      · have : g = f := by
          have hn := mok.2.1
          clear hw hmap hw' hit hnew hlt hleft
          refine Classical.byContradiction fun hne => ?_
          have hp := List.pairwise_map.1 hn
          rcases List.getElem_of_mem hg with ⟨i, hi, rfl⟩
          rcases List.getElem_of_mem hf with ⟨j, hj, rfl⟩
          rcases Nat.lt_trichotomy i j with h | h | h
          · exact List.pairwise_iff_getElem.1 hp i j hi hj h h3
          · subst h; exact hne rfl
          · exact List.pairwise_iff_getElem.1 hp j i hj hi h h3.symm
        subst this
        have := huniq _ _ _ hmem hmem'
        simp only [Prod.mk.injEq] at this
        rw [← this.2]; exact hh
    have d0 := keep_cell kk c0
    have d1 := keep_cell kk c1
    refine ⟨e.first, d0, bsplit_decide.2 ⟨fun b1 => ⟨e.first, d0, e.len, by rw [add_mk]; exact d1, ?_⟩, fun b1 => next (by simp [hitV]; omega)⟩⟩
    rw [wrap_of (by omega) (by omega)]
    refine bsplit_decide.2 ⟨fun b2 => ?_, fun b2 => next (by simp [hitV]; omega)⟩
    have hpo := putsA_on hb
    have hxn := hpo.1
    obtain ⟨ad, d, ha, hc0, _, _⟩ := (putsOn_le (keep_le kk) hpo).2 (b.length - 1) (by omega)
    have e1 : IntKind.i64.wrap (((x.n : Nat) : Int) - 1) = ((b.length - 1 : Nat) : Int) := by rw [hxn, wrap_of (by omega) (by omega)]; omega
    rw [e1]
    have hlast : lastT b = b[b.length - 1].lba := by
      unfold lastT
      rw [List.getLastD_eq_getLast?, List.getLast?_eq_getElem?, List.getElem?_eq_getElem (by omega)]; rfl
    refine ⟨by omega, by omega, onP_i ha ⟨b[b.length - 1].lba, hc0, bsplit_decide.2 ⟨fun b3 => ?_, fun b3 => next (by simp [hitV, hlast]; omega)⟩⟩⟩
    have : M.written e after = true := by
      unfold XMap.written
      rw [hm, Bool.true_and, List.any_eq_true]
      exact ⟨(f.k, b), hxs ▸ List.mem_map.2 ⟨(f.k, (x, b)), hmem, rfl⟩, by simp [hitV, hlast, b1, b2, b3]⟩
    rw [← this]
    exact hk _ (k1.trans kk)
  · have : M.written e after = false := by
      unfold XMap.written
      rw [hm, Bool.true_and, List.any_eq_false]
      intro q hq
      obtain ⟨f, hf, s, hfk, hmem⟩ := he2 q hq
      have := hseen f hf (hall f hf) s q.2 hmem
      rw [hfk] at this
      simpa using this
    rw [← this]
    exact hk _ (k1.trans (hcell w' hw'.right))
end Go.Proofs.Ytbolgpjcmchfoaa
/- Contracts: does a transaction conflict? -/
namespace Go.Proofs.Ytbolgpjcmchfoaa
open Go Go.Vc Go.Sl Go.Mo
theorem against1_c {x : Put} {d : SV} {c : Nat} {p : Option Addr} {S : XSet} {R : HP} {w : World} {K : Bool → World → Prop} (h : Sat (setA p S * R) w) (ok : SetOk S) (hc : w.cell? ⟨c, 0, none⟩ = some (.pointer p)) (hk : ∀ w', Keep w w' → K (S.has x.lba) w') : c_valid_Against_1 x.lba d (some ⟨c, 0, none⟩) w K := by
  refine valid_Against_1_go ?_
  unfold f_valid_Against_1
  rw [withW_iff, onP_some]
  have k1 := Keep.alloc w (.cells #[.int .i64 x.lba, .slice d.a d.n d.c] 53)
  exact ⟨p, keep_cell k1 hc, x.lba, by rw [World.cell?_alloc_new]; rfl, set_has (k1.sat h) ok fun w' kw => hk _ (k1.trans kw)⟩
theorem against_c {t : Tx} {s : SV} {p : Option Addr} {S : XSet} {R : HP} {w : World} {K : Bool → World → Prop} (h : Sat (setA p S * R) w) (ok : SetOk S) (hl : putsOn (hp w) s t.puts) (hn : t.puts.length ≤ 2 ^ 60) (hk : ∀ w', Keep w w' → K (againstM t S) w') : c_valid_Against t.time s p w K := by
  refine valid_Against_go ?_
  unfold f_valid_Against
  simp only [withW_iff]
  have k1 := Keep.alloc w (.cells #[.int .i64 t.time, .slice s.a s.n s.c] 33)
  have k2 := Keep.alloc (w.alloc (.cells #[.int .i64 t.time, .slice s.a s.n s.c] 33)) (.cells #[.pointer p] 34)
  refine ⟨s, by rw [add_mk, World.cell?_alloc_lt _ _ _ (by simp), World.cell?_alloc_new]; rfl, ?_⟩
  have hc : ((w.alloc (.cells #[.int .i64 t.time, .slice s.a s.n s.c] 33)).alloc (.cells #[.pointer p] 34)).cell? ⟨(w.alloc (.cells #[.int .i64 t.time, .slice s.a s.n s.c] 33)).heap.size, 0, none⟩ = some (.pointer p) := by rw [World.cell?_alloc_new]; rfl
  have kk := k1.trans k2
  generalize (w.alloc (.cells #[.int .i64 t.time, .slice s.a s.n s.c] 33)).heap.size = bx at hc ⊢
  generalize (w.alloc (.cells #[.int .i64 t.time, .slice s.a s.n s.c] 33)).alloc (.cells #[.pointer p] 34) = w2 at hc kk ⊢
  refine slices_ContainsFunc_api_Put_api_Put_at_valid_Against_1_go ?_
  refine slices_IndexFunc_api_Put_api_Put_at_valid_Against_1_go ?_
  refine find_puts (p := fun x => S.has x.lba) (post := fun r w => K (decide (0 ≤ r)) w) (call := fun a d w K => c_valid_Against_1 a d (some ⟨bx, 0, none⟩) w K) (putsOn_le (keep_le kk) hl) hn (fun x _ d w' K kw _ hk => against1_c ((kk.trans kw).sat h) ok (keep_cell kw hc) hk) fun r w' hw hr => ?_
  rw [hr]
  exact hk _ (kk.trans hw)
theorem valid_c {B : Nat} {pm pr ps : Option Addr} {M : XMap} {q : SV} {l : List Tx} {at_ : Int} {Sr Ss : XSet} {R1 R2 R3 : HP} {w : World} {K : Int → World → Prop} (hM : Sat (xmapA pm M * R1) w) (okM : XOk B M) (hB : B ≤ 2 ^ 31) (hr : Sat (setA pr Sr * R2) w) (okr : SetOk Sr) (hs : Sat (setA ps Ss * R3) w) (oks : SetOk Ss)
    (hq : txsOn (hp w) q l) (hql : l.length ≤ 2 ^ 40 ∧ ∀ t ∈ l, t.puts.length ≤ 2 ^ 40) (hk : ∀ w', Keep w w' → K (validM M l at_ Sr Ss) w') : c_valid_Check pm q at_ pr ps w K := by
  refine valid_Check_go (set_count hs oks fun w2 k2 => bsplit_decide.2 ⟨fun h0 => ?_, fun h0 => ?_⟩)
  · have : validM M l at_ Sr Ss = 0 := by unfold validM; rw [if_pos h0]
    rw [← this]; exact hk _ k2
  have hval : validM M l at_ Sr Ss = if hitS M l at_ Sr || hitS M l at_ Ss then 8 else 0 := by unfold validM; rw [if_neg h0]
  have hyes : (hitS M l at_ Sr || hitS M l at_ Ss) = true → ∀ w', Keep w w' → K 8 w' := fun h w' kw => by have := hk w' kw; rw [hval, if_pos h] at this; exact this
  have w01 : IntKind.i64.wrap ((0 : Int) + 1) = 1 := by rw [wrap_of (by omega) (by omega)]; rfl
  have w12 : IntKind.i64.wrap ((1 : Int) + 1) = 2 := by rw [wrap_of (by omega) (by omega)]; rfl
  have hqn := hq.1
  -- one of the two sets
  have one : ∀ (p : Option Addr) (S : XSet) (R : HP) (w4 : World) (nxt : Int → World → Prop), Keep w w4 → Sat (setA p S * R) w → SetOk S → (hitS M l at_ S = true → ∀ w', Keep w w' → K 8 w') → (hitS M l at_ S = false → ∀ w', Keep w w' → nxt 0 w') →
      c_ival_Set_Extents p w4 fun (x7 : SV) w8 =>
          (loopR (α := Int × Int) ((0 : Int), 0) w8 fun x9 w10 next11 =>
           (bsplit (decide ((x9.2 : Int) < ((x7.n : Nat) : Int)))
            ((0 ≤ (x9.2 : Int) ∧ (x9.2 : Int) < ((x7.n : Nat) : Int) ∧
              (onP x7.a fun p12 =>
               (∃ g13 : Int × Int, (w10.cell? (p12.add ((x9.2 : Int).toNat * 2)) = some (.int .i64 g13.1) ∧ w10.cell? ((p12.add ((x9.2 : Int).toNat * 2)).add 1) = some (.int .i64 g13.2)) ∧
                (withW (w10.alloc (.cells #[.int .i64 0, .int .i64 0] 44)) fun w14 =>
                 ((((∃ u, w14.cell? (⟨w10.heap.size, 0, none⟩ : Addr) = some u) ∧ w14.frozen? (⟨w10.heap.size, 0, none⟩ : Addr) = false) ∧ ((∃ u, w14.cell? ((⟨w10.heap.size, 0, none⟩ : Addr).add 1) = some u) ∧ w14.frozen? ((⟨w10.heap.size, 0, none⟩ : Addr).add 1) = false)) ∧ (true = true) ∧
                  (withW ((w14.setCell (⟨w10.heap.size, 0, none⟩ : Addr) (.int .i64 g13.1)).setCell ((⟨w10.heap.size, 0, none⟩ : Addr).add 1) (.int .i64 g13.2)) fun w15 =>
                   (∃ n16 : Int, (w15.cell? (⟨w10.heap.size, 0, none⟩ : Addr) = some (.int .i64 n16)) ∧
                    (∃ n17 : Int, (w15.cell? ((⟨w10.heap.size, 0, none⟩ : Addr).add 1) = some (.int .i64 n17)) ∧
                     (withW (w15.alloc (.cells #[.int .i64 0, .int .i64 0] 44)) fun w18 =>
                      ((((∃ u, w18.cell? (⟨w15.heap.size, 0, none⟩ : Addr) = some u) ∧ w18.frozen? (⟨w15.heap.size, 0, none⟩ : Addr) = false) ∧ ((∃ u, w18.cell? ((⟨w15.heap.size, 0, none⟩ : Addr).add 1) = some u) ∧ w18.frozen? ((⟨w15.heap.size, 0, none⟩ : Addr).add 1) = false)) ∧ (true = true) ∧
                       (withW ((w18.setCell (⟨w15.heap.size, 0, none⟩ : Addr) (.int .i64 (IntKind.i64.wrap ((IntKind.i64.wrap (n16 + n17)) - 1)))).setCell ((⟨w15.heap.size, 0, none⟩ : Addr).add 1) (.int .i64 1)) fun w19 =>
                        (∃ n20 : Int, (w19.cell? ((⟨w10.heap.size, 0, none⟩ : Addr).add 1) = some (.int .i64 n20)) ∧
                         ((((∃ u, w19.cell? ((⟨w10.heap.size, 0, none⟩ : Addr).add 1) = some u) ∧ w19.frozen? ((⟨w10.heap.size, 0, none⟩ : Addr).add 1) = false)) ∧ (true = true) ∧
                          (withW (w19.setCell ((⟨w10.heap.size, 0, none⟩ : Addr).add 1) (.int .i64 (if (1048576 : Int) < n20 then 1048576 else n20))) fun w21 =>
                           (∃ g22 : Int × Int, (w21.cell? (⟨w10.heap.size, 0, none⟩ : Addr) = some (.int .i64 g22.1) ∧ w21.cell? ((⟨w10.heap.size, 0, none⟩ : Addr).add 1) = some (.int .i64 g22.2)) ∧
                            (c_extmap_Map_Written pm g22.1 g22.2 at_ w21 fun (x23 : Bool) w24 =>
                             (bsplit x23
                              (K 8 w24)
                              ((∃ g25 : Int × Int, (w24.cell? (⟨w15.heap.size, 0, none⟩ : Addr) = some (.int .i64 g25.1) ∧ w24.cell? ((⟨w15.heap.size, 0, none⟩ : Addr).add 1) = some (.int .i64 g25.2)) ∧
                                (c_extmap_Map_Written pm g25.1 g25.2 at_ w24 fun (x26 : Bool) w27 =>
                                 (bsplit x26
                                  (K 8 w27)
                                  (next11 (x9.1, (IntKind.i64.wrap (x9.2 + 1))) w27)))))))))))))))))))))))
            ((loopR (α := Int × Int) (x9.1, 0) w10 fun x28 w29 next30 =>
              (bsplit (decide ((x28.2 : Int) < ((q.n : Nat) : Int)))
               ((0 ≤ (x28.2 : Int) ∧ (x28.2 : Int) < ((q.n : Nat) : Int) ∧
                 (onP q.a fun p31 =>
                  (∃ g32 : Int × SV, (w29.cell? (p31.add ((x28.2 : Int).toNat * 2)) = some (.int .i64 g32.1) ∧ w29.cell? ((p31.add ((x28.2 : Int).toNat * 2)).add 1) = some (.slice g32.2.a g32.2.n g32.2.c)) ∧
                   (withW (w29.alloc (.cells #[.int .i64 0, .slice none 0 0] 33)) fun w33 =>
                    ((((∃ u, w33.cell? (⟨w29.heap.size, 0, none⟩ : Addr) = some u) ∧ w33.frozen? (⟨w29.heap.size, 0, none⟩ : Addr) = false) ∧ ((∃ u, w33.cell? ((⟨w29.heap.size, 0, none⟩ : Addr).add 1) = some u) ∧ w33.frozen? ((⟨w29.heap.size, 0, none⟩ : Addr).add 1) = false)) ∧ (true = true) ∧
                     (withW ((w33.setCell (⟨w29.heap.size, 0, none⟩ : Addr) (.int .i64 g32.1)).setCell ((⟨w29.heap.size, 0, none⟩ : Addr).add 1) (.slice g32.2.a g32.2.n g32.2.c)) fun w34 =>
                      (∃ g35 : Int × SV, (w34.cell? (⟨w29.heap.size, 0, none⟩ : Addr) = some (.int .i64 g35.1) ∧ w34.cell? ((⟨w29.heap.size, 0, none⟩ : Addr).add 1) = some (.slice g35.2.a g35.2.n g35.2.c)) ∧
                       (c_valid_Against g35.1 g35.2 p w34 fun (x36 : Bool) w37 =>
                        (bsplit x36
                         (K 8 w37)
                         (next30 (x28.1, (IntKind.i64.wrap (x28.2 + 1))) w37)))))))))))
               (nxt x28.1 w29)))))) := by
    intro p S R w4 nxt k4 hS okS hhit hmiss
    have hb := okS.2
    refine set_extents (k4.sat hS) (by omega) fun x7 w8 h8 => ?_
    have k8 : Keep w w8 := k4.trans (Keep.whole h8.right)
    have hon := extsA_on h8.left
    have hxn := hon.1
    refine loop_i (fun (x : Int × Int) w' => ∃ i : Nat, x = (0, (i : Int)) ∧ i ≤ S.l.length ∧ Keep w8 w' ∧ ∀ j (hj : j < S.l.length), j < i → hitX M at_ S.l[j] = false) (fun x _ => S.l.length - x.2.toNat) ⟨0, rfl, by omega, Keep.refl w8, fun j _ h => by omega⟩ ?_
    rintro x w10 ⟨i, rfl, hi, k10, hall⟩
    refine bsplit_decide.2 ⟨fun hlt => ?_, fun hge => ?_⟩
    · have hlt' : i < S.l.length := by simp at hlt; omega
      obtain ⟨ad, ha, hc1, hc2⟩ := (extsOn_le (keep_le k10) hon).2 i hlt'
      have hxok := okS.1 _ (List.getElem_mem hlt')
      have hhx : hitX M at_ S.l[i] = true → ∀ w', Keep w w' → K 8 w' := fun hx => hhit (by unfold hitS; rw [List.any_eq_true.2 ⟨_, List.getElem_mem hlt', hx⟩, Bool.true_or])
      have e1 : IntKind.i64.wrap ((i : Int) + 1) = ((i + 1 : Nat) : Int) := by rw [wrap_of (by omega) (by omega)]; omega
      have hnx : ∀ w', Keep w8 w' → hitX M at_ S.l[i] = false → (∃ i_1 : Nat, ((0 : Int), IntKind.i64.wrap ((i : Int) + 1)) = (0, (i_1 : Int)) ∧ i_1 ≤ S.l.length ∧ Keep w8 w' ∧ ∀ j (hj : j < S.l.length), j < i_1 → hitX M at_ S.l[j] = false) ∧ S.l.length - (IntKind.i64.wrap ((i : Int) + 1)).toNat < S.l.length - (i : Int).toNat := fun w' kw hx => by
        refine ⟨⟨i + 1, by rw [e1], by omega, kw, fun j hj hji => ?_⟩, by rw [e1]; simp; omega⟩
        rcases Nat.lt_succ_iff_lt_or_eq.1 hji with h' | h'
        · exact hall j hj h'
        · subst h'; exact hx
      generalize S.l[i] = e at *
      unfold okE at hxok
      refine ⟨by omega, by omega, onP_i ha ⟨(e.first, e.len), ⟨hc1, hc2⟩, box2 (sat_whole w10) fun w15 k15 h15 => ?_⟩⟩
      refine ⟨e.first, (objA_cells h15).1 0, e.len, by rw [add_mk]; exact (objA_cells h15).1 1, box2 h15 fun w19 k19 h19 => ?_⟩
      have h19' : Sat (objA (some ⟨w10.heap.size, 0, none⟩) [.int .i64 e.first, .int .i64 e.len] * (objA (some ⟨w15.heap.size, 0, none⟩) [.int .i64 (IntKind.i64.wrap ((IntKind.i64.wrap (e.first + e.len)) - 1)), .int .i64 1] * whole w10)) w19 := h19.eq (by ac_rfl)
      refine ⟨e.len, by rw [add_mk]; exact (objA_cells h19').1 1, ?_⟩
      rw [add_mk]
      refine objA_store (i := 1) h19' (by simp) fun w21 h21 => ?_
      simp only [List.set_cons_succ, List.set_cons_zero] at h21
      have k21 : Keep w10 w21 := Keep.whole h21.right.right
      have kw21 : Keep w w21 := k8.trans (k10.trans k21)
      refine ⟨(e.first, if (1048576 : Int) < e.len then 1048576 else e.len), ⟨(objA_cells h21).1 0, (objA_cells h21).1 1⟩, ?_⟩
      refine xmap_written (e := ⟨e.first, if (1048576 : Int) < e.len then 1048576 else e.len⟩) (kw21.sat hM) okM hB fun w24 k24 => bsplit_iff.2 ⟨fun hw => hhx (by unfold hitX; rw [hw, Bool.true_or]) _ (kw21.trans k24), fun hw => ?_⟩
      have h24 := k24.sat h21.right
      rw [wrap_of (x := e.first + e.len) (by omega) (by omega), wrap_of (by omega) (by omega)] at h24
      refine ⟨(e.first + e.len - 1, 1), ⟨(objA_cells h24).1 0, by rw [add_mk]; exact (objA_cells h24).1 1⟩, ?_⟩
      refine xmap_written (e := ⟨e.first + e.len - 1, 1⟩) ((kw21.trans k24).sat hM) okM hB fun w27 k27 => bsplit_iff.2 ⟨fun hw2 => hhx (by unfold hitX; rw [hw2, Bool.or_true]) _ ((kw21.trans k24).trans k27), fun hw2 => ?_⟩
      exact hnx _ (k10.trans (k21.trans (k24.trans k27))) (by unfold hitX; rw [hw, hw2]; rfl)
    · obtain rfl : i = S.l.length := by simp at hge; omega
      have hno : S.l.any (hitX M at_) = false := by
        rw [List.any_eq_false]
        intro x hx
        obtain ⟨j, hj, rfl⟩ := List.getElem_of_mem hx
        simpa using hall j hj hj
      have k10' : Keep w w10 := k8.trans k10
      refine loop_i (fun (x : Int × Int) w' => ∃ i : Nat, x = (0, (i : Int)) ∧ i ≤ l.length ∧ Keep w w' ∧ ∀ j (hj : j < l.length), j < i → againstM l[j] S = false) (fun x _ => l.length - x.2.toNat) ⟨0, rfl, by omega, k10', fun j _ h => by omega⟩ ?_
      rintro x w29 ⟨i, rfl, hi, k29, hall2⟩
      refine bsplit_decide.2 ⟨fun hlt => ?_, fun hge2 => ?_⟩
      · have hlt' : i < l.length := by simp at hlt; omega
        obtain ⟨ad, d, ha, hc1, hc2, hd⟩ := (txsOn_le (keep_le k29) hq).2 i hlt'
        have hpl := hql.2 _ (List.getElem_mem hlt')
        refine ⟨by omega, by omega, onP_i ha ⟨(l[i].time, d), ⟨hc1, hc2⟩, box2 (sat_whole w29) fun w34 k34 h34 => ?_⟩⟩
        refine ⟨(l[i].time, d), ⟨(objA_cells h34).1 0, by rw [add_mk]; exact (objA_cells h34).1 1⟩, ?_⟩
        refine against_c ((k29.trans k34).sat hS) okS (putsOn_le (keep_le k34) hd) (by omega) fun w37 k37 => bsplit_iff.2 ⟨fun hw => ?_, fun hw => ?_⟩
        · refine hhit ?_ _ ((k29.trans k34).trans k37)
          unfold hitS
          rw [List.any_eq_true.2 ⟨_, List.getElem_mem hlt', hw⟩, Bool.or_true]
        · have e1 : IntKind.i64.wrap ((i : Int) + 1) = ((i + 1 : Nat) : Int) := by rw [wrap_of (by omega) (by omega)]; omega
          refine ⟨⟨i + 1, by rw [e1], by omega, (k29.trans k34).trans k37, fun j hj hji => ?_⟩, by simp only [e1]; omega⟩
          rcases Nat.lt_succ_iff_lt_or_eq.1 hji with h' | h'
          · exact hall2 j hj h'
          · subst h'; exact hw
      · obtain rfl : i = l.length := by simp at hge2; omega
        refine hmiss ?_ _ k29
        unfold hitS
        rw [hno, Bool.false_or, List.any_eq_false]
        intro x hx
        obtain ⟨j, hj, rfl⟩ := List.getElem_of_mem hx
        simpa using hall2 j hj hj
  refine loop_i (fun (x : Int × Int) w' => Keep w w' ∧ (x = (0, 0) ∨ (x = (0, 1) ∧ hitS M l at_ Sr = false) ∨ (x = (0, 2) ∧ hitS M l at_ Sr = false ∧ hitS M l at_ Ss = false))) (fun x _ => 2 - x.2.toNat) ⟨k2, .inl rfl⟩ ?_
  rintro x w4 ⟨k4, rfl | ⟨rfl, hr0⟩ | ⟨rfl, hr0, hs0⟩⟩
  · refine bsplit_decide.2 ⟨fun _ => ⟨by omega, by omega, pr, rfl, ?_⟩, fun hge => by omega⟩
    exact one pr Sr R2 w4 (fun c w29 => (Keep w w29 ∧ ((c, IntKind.i64.wrap ((0 : Int) + 1)) = (0, 0) ∨ ((c, IntKind.i64.wrap ((0 : Int) + 1)) = (0, 1) ∧ hitS M l at_ Sr = false) ∨ ((c, IntKind.i64.wrap ((0 : Int) + 1)) = (0, 2) ∧ hitS M l at_ Sr = false ∧ hitS M l at_ Ss = false))) ∧ 2 - (IntKind.i64.wrap ((0 : Int) + 1)).toNat < 2 - (0 : Int).toNat) k4 hr okr (fun h => hyes (by rw [h, Bool.true_or])) fun h w' kw => by
      rw [w01]; exact ⟨⟨kw, .inr (.inl ⟨rfl, h⟩)⟩, by omega⟩
  · refine bsplit_decide.2 ⟨fun _ => ⟨by omega, by omega, ps, rfl, ?_⟩, fun hge => by omega⟩
    exact one ps Ss R3 w4 (fun c w29 => (Keep w w29 ∧ ((c, IntKind.i64.wrap ((1 : Int) + 1)) = (0, 0) ∨ ((c, IntKind.i64.wrap ((1 : Int) + 1)) = (0, 1) ∧ hitS M l at_ Sr = false) ∨ ((c, IntKind.i64.wrap ((1 : Int) + 1)) = (0, 2) ∧ hitS M l at_ Sr = false ∧ hitS M l at_ Ss = false))) ∧ 2 - (IntKind.i64.wrap ((1 : Int) + 1)).toNat < 2 - (1 : Int).toNat) k4 hs oks (fun h => hyes (by rw [h, Bool.or_true])) fun h w' kw => by
      rw [w12]; exact ⟨⟨kw, .inr (.inr ⟨rfl, hr0, h⟩)⟩, by omega⟩
  · refine bsplit_decide.2 ⟨fun hlt => by omega, fun _ => ?_⟩
    have := hk w4 k4
    rw [hval, hr0, hs0] at this
    exact this
end Go.Proofs.Ytbolgpjcmchfoaa
/- Contracts: the sets of a transaction; how many make a batch. -/
namespace Go.Proofs.Ytbolgpjcmchfoaa
open Go Go.Vc Go.Sl Go.Mo
theorem readsA_nil {R : HP} {w : World} (h : Sat R w) : Sat (readsA ⟨none, 0, 0⟩ [] * R) w := by
  simp only [readsA, ex_mul, mul_assoc', sat_ex, sat_lift]
  exact ⟨[], rfl, ownS_nil (by simpa [all] using h) rfl rfl⟩
theorem view_ptr {p m b : Option Addr} {V : View} {R : HP} {w : World} (h : Sat (viewA p m b V * R) w) : ∃ a, p = some ⟨a, 0, none⟩ := by
  obtain ⟨sp, rs, h1⟩ := viewA_open h
  obtain ⟨b, t, rfl, _⟩ := objA_open h1
  exact ⟨b, rfl⟩
theorem emptySet_ok {m : Int} : SetOk ⟨m, []⟩ := ⟨by simp, by simp⟩
def lbaOk (k : Int) : Prop := 0 ≤ k ∧ k < 1048576
end Go.Proofs.Ytbolgpjcmchfoaa
/- Contracts of the manager: one begins, opens, writes, ends. -/
namespace Go.Proofs.Ytbolgpjcmchfoaa
open Go Go.Vc Go.Sl Go.Mo
theorem put_same {α : Type} {l : List (Int × α)} {k : Int} {v : α} (h : lkp l k = some v) : put l k v = l := by
  induction l with
  | nil => cases h
  | cons p r ih =>
    obtain ⟨i, x⟩ := p
    simp only [lkp] at h
    simp only [put]
    by_cases e : k = i
    · rw [if_pos e] at h ⊢; cases h; rfl
    · rw [if_neg e] at h ⊢; rw [ih h]
theorem del_put {α : Type} (l : List (Int × α)) (k : Int) (v : α) : del (put l k v) k = del l k := by
  induction l with
  | nil => simp [put, del]
  | cons p r ih =>
    obtain ⟨i, x⟩ := p
    simp only [put]
    by_cases e : k = i
    · rw [if_pos e]; simp [del, e]
    · rw [if_neg e]; simp only [del, if_neg e, ih]
def ptrs (xs : Prs) : List (Int × Value) := on2 (fun x : Option Addr × Trn => .pointer x.1) xs
/-- The manager without one transaction. -/
def mgrH (p mp bk : Option Addr) (r : Nat) (qs : SV) (xs : Prs) (M : Mgr) (i : Int) : HP :=
  objA p (mcells mp bk r qs M) * (xmapA mp M.m * (bookA bk M.book * (mapA r (ptrs xs) * (Sl.all (del xs i) (fun x => trA mp x.2.1 x.2.2) * ownS 1 qs (M.queue.map intv)))))
theorem mgr_focus {p mp bk tp : Option Addr} {r : Nat} {qs : SV} {xs : Prs} {M : Mgr} {i : Int} {T : Trn} (h : lkp xs i = some (tp, T)) : mgrO p mp bk r qs xs M = trA mp tp T * mgrH p mp bk r qs xs M i := by
  unfold mgrO mgrH ptrs
  rw [all_take h]
  ac_rfl
theorem mgr_back {p mp bk tp : Option Addr} {r : Nat} {qs : SV} {xs : Prs} {M : Mgr} {i : Int} {T T' : Trn} (h : lkp xs i = some (tp, T)) : mgrO p mp bk r qs (put xs i (tp, T')) M = trA mp tp T' * mgrH p mp bk r qs xs M i := by
  have e : on2 (fun x : Option Addr × Trn => Value.pointer x.1) (put xs i (tp, T')) = ptrs xs := by
    rw [← put_on2 (fun x : Option Addr × Trn => Value.pointer x.1)]
    exact put_same (by rw [lkp_on2, h]; rfl)
  unfold mgrO mgrH
  rw [e, all_put]
  ac_rfl
theorem mgr_ptr {p mp bk : Option Addr} {r : Nat} {qs : SV} {xs : Prs} {M : Mgr} {R : HP} {w : World} (h : Sat (mgrO p mp bk r qs xs M * R) w) : ∃ a b c, p = some ⟨a, 0, none⟩ ∧ mp = some ⟨b, 0, none⟩ ∧ bk = some ⟨c, 0, none⟩ := by
  unfold mgrO at h
  obtain ⟨a, ta, rfl, _⟩ := objA_open (h.eq (mul_assoc' _ _ _))
  obtain ⟨b, rfl⟩ := xmap_ptr (M := M.m) (R := objA (some ⟨a, 0, none⟩) (mcells mp bk r qs M) * (bookA bk M.book * (mapA r (on2 (fun x => .pointer x.1) xs) * (Sl.all xs (fun x => trA mp x.2.1 x.2.2) * (ownS 1 qs (M.queue.map intv) * R))))) (h.eq (by ac_rfl))
  obtain ⟨c, rfl⟩ := book_ptr (B := M.book) (R := objA (some ⟨a, 0, none⟩) (mcells (some ⟨b, 0, none⟩) bk r qs M) * (xmapA (some ⟨b, 0, none⟩) M.m * (mapA r (on2 (fun x => .pointer x.1) xs) * (Sl.all xs (fun x => trA (some ⟨b, 0, none⟩) x.2.1 x.2.2) * (ownS 1 qs (M.queue.map intv) * R))))) (h.eq (by ac_rfl))
  exact ⟨a, b, c, rfl, rfl, rfl⟩
end Go.Proofs.Ytbolgpjcmchfoaa
/- Contracts of the manager: one begins, one ends; what became of it. -/
namespace Go.Proofs.Ytbolgpjcmchfoaa
open Go Go.Vc Go.Sl Go.Mo
theorem objA_only {p : Option Addr} {vs : List Value} {R : HP} {w : World} (h : Sat (objA p vs * R) w) : Sat (objA p vs * 1) w := h.left.eq (mul_one' _).symm
end Go.Proofs.Ytbolgpjcmchfoaa
/- Contracts of the manager: what waits, what may be committed. -/
namespace Go.Proofs.Ytbolgpjcmchfoaa
open Go Go.Vc Go.Sl Go.Mo
/-- What a manager's parts must be for its waiting ones to be told. -/
def WaitOk (M : Mgr) : Prop := M.queue.length ≤ 2 ^ 20 ∧ ∀ h ∈ M.queue, ∃ T, lkp M.all h = some T ∧ BufOk T.buf ∧ T.buf.data.length ≤ 2 ^ 20
theorem mgr_part {p mp bk tp : Option Addr} {r : Nat} {qs : SV} {xs : Prs} {M : Mgr} {i : Int} {T : Trn} {R : HP} {w : World} (h : Sat (mgrO p mp bk r qs xs M * R) w) (hlk : lkp xs i = some (tp, T)) :
    ∃ d bp vp, tp = some ⟨d, 0, none⟩ ∧ (∀ j, w.cell? ⟨d, j, none⟩ = [Value.int .i64 T.state, .int .i64 T.time, .int .i64 T.code, .int .i64 T.at_, .pointer bp, .pointer vp][j]?) ∧ Sat (bufA bp T.buf * 1) w ∧ Sat (viewA vp mp bp T.view * 1) w := by
  rw [mgr_focus hlk] at h
  obtain ⟨bp, vp, h1⟩ := trA_open (h.eq (mul_assoc' _ _ _))
  obtain ⟨d, td, rfl, _⟩ := objA_open h1
  exact ⟨d, bp, vp, rfl, (objA_cells h1).1, h1.right.left.eq (mul_one' _).symm, h1.right.right.left.eq (mul_one' _).symm⟩
theorem mgr_cells {p mp bk : Option Addr} {r : Nat} {qs : SV} {xs : Prs} {M : Mgr} {R : HP} {w : World} (h : Sat (mgrO p mp bk r qs xs M * R) w) : ∃ a, p = some ⟨a, 0, none⟩ ∧ (∀ j, w.cell? ⟨a, j, none⟩ = (mcells mp bk r qs M)[j]?) ∧ (∃ es, (∃ cl, mapAt w r .i64 es cl) ∧ ∀ k, findE es k = (lkp xs k).map fun x => Value.pointer x.1) ∧ Sat (ownS 1 qs (M.queue.map intv) * 1) w ∧ Sat (xmapA mp M.m * 1) w := by
  obtain ⟨a, b, c, rfl, rfl, rfl⟩ := mgr_ptr h
  have h2 : Sat (objA (some ⟨a, 0, none⟩) (mcells (some ⟨b, 0, none⟩) (some ⟨c, 0, none⟩) r qs M) * (mapA r (ptrs xs) * (ownS 1 qs (M.queue.map intv) * (xmapA (some ⟨b, 0, none⟩) M.m * (Sl.all xs (fun x => trA (some ⟨b, 0, none⟩) x.2.1 x.2.2) * (bookA (some ⟨c, 0, none⟩) M.book * R)))))) w := h.eq (by unfold mgrO ptrs; ac_rfl)
  obtain ⟨es, hcl, hf, _⟩ := mapA_get h2.right
  exact ⟨a, rfl, (objA_cells h2).1, ⟨es, hcl, fun k => by rw [hf]; unfold ptrs; rw [lkp_on2]⟩, h2.right.right.left.eq (mul_one' _).symm, h2.right.right.right.left.eq (mul_one' _).symm⟩
theorem mapAt_keep {w w' : World} (k : Keep w w') {r : Nat} {es : List En} (h : ∃ cl, mapAt w r .i64 es cl) : ∃ cl, mapAt w' r .i64 es cl := by
  obtain ⟨cl, hm⟩ := h
  exact ⟨cl, keep_heap k hm⟩
theorem waiting_take {M : Mgr} {i : Nat} (hi : i < M.queue.length) {T : Trn} (hT : lkp M.all M.queue[i] = some T) : (M.queue.take (i + 1)).filterMap (fun h => (lkp M.all h).map fun T => (⟨T.time, T.buf.puts⟩ : Tx)) = (M.queue.take i).filterMap (fun h => (lkp M.all h).map fun T => ⟨T.time, T.buf.puts⟩) ++ [⟨T.time, T.buf.puts⟩] := by
  rw [List.take_succ_eq_append_getElem hi, List.filterMap_append]
  simp [hT]
theorem waiting_length {M : Mgr} (ok : WaitOk M) : ∀ i, i ≤ M.queue.length → ((M.queue.take i).filterMap (fun h => (lkp M.all h).map fun T => (⟨T.time, T.buf.puts⟩ : Tx))).length = i
  | 0, _ => by simp
  | i + 1, h => by
    obtain ⟨T, hT, _⟩ := ok.2 _ (List.getElem_mem (show i < M.queue.length by omega))
    rw [waiting_take (by omega) hT, List.length_append, waiting_length ok i (by omega)]; rfl
theorem waiting_len {M : Mgr} (ok : WaitOk M) : M.waiting.length = M.queue.length := by
  have := waiting_length ok M.queue.length (Nat.le_refl _)
  rwa [List.take_length] at this
/-- What a transaction must be to be asked whether it may be committed. -/
def TrnOk (T : Trn) : Prop := BufOk T.buf ∧ (∀ q ∈ T.buf.data, lbaOk q.1) ∧ T.buf.data.length ≤ 2 ^ 20 ∧ SetOk T.view.set ∧ T.view.set.l.length ≤ 2 ^ 20
theorem puts_length (B : Buf) : B.puts.length = B.data.length := by simp [Buf.puts, sortI_length]
theorem waiting_puts {M : Mgr} (ok : WaitOk M) : ∀ t ∈ M.waiting, t.puts.length ≤ 2 ^ 20 := by
  intro t ht
  unfold Mgr.waiting at ht
  obtain ⟨h, hh, e⟩ := List.mem_filterMap.1 ht
  obtain ⟨T, hT, _, hl⟩ := ok.2 h hh
  rw [hT] at e
  simp only [Option.map_some, Option.some.injEq] at e
  rw [← e]
  simp only [puts_length]; exact hl
theorem viewSet_ok {V : View} (_ : SetOk V.set) (hl : V.set.l.length ≤ 2 ^ 20) : SetOk (viewSet V) := set_add_ok emptySet_ok (by simp; omega)
end Go.Proofs.Ytbolgpjcmchfoaa
/- Contracts of the manager: one is handed in. -/
namespace Go.Proofs.Ytbolgpjcmchfoaa
open Go Go.Vc Go.Sl Go.Mo
theorem lkp_put_self {α : Type} (l : List (Int × α)) (k : Int) (v : α) : lkp (put l k v) k = some v := by rw [lkp_put]; simp
end Go.Proofs.Ytbolgpjcmchfoaa
/- Contracts of the manager: the next batch. -/
namespace Go.Proofs.Ytbolgpjcmchfoaa
open Go Go.Vc Go.Sl Go.Mo
theorem formL_bounds : ∀ (l : List Tx) (a n : Int), n ≤ formL l a n ∧ formL l a n ≤ n + (l.length : Nat)
  | [], a, n => by simp [formL]
  | t :: r, a, n => by
    simp only [formL]
    split
    · simp; omega
    · have := formL_bounds r (a + (t.puts.length : Nat)) (n + 1)
      simp only [List.length_cons]; omega
theorem sub_zero {a : Option Addr} {c e : Nat} (ha : ∀ ad, a = some ad → ad.spot = none) : sub? a 0 c e = a := by
  unfold sub?
  split
  · rfl
  · cases a with
    | none => rfl
    | some ad =>
      have := ha ad rfl
      obtain ⟨b, o, s⟩ := ad
      simp only at this; subst this
      simp
theorem txsOn_take {h : Heap} {s : SV} {l : List Tx} (hl : txsOn h s l) {k : Nat} (hk : k ≤ l.length) (c : Nat) : txsOn h ⟨s.a, k, c⟩ (l.take k) := by
  refine ⟨by simp; omega, fun i hi => ?_⟩
  have hi' : i < l.length := by simp at hi; omega
  obtain ⟨ad, d, h1, h2, h3, h4⟩ := hl.2 i hi'
  exact ⟨ad, d, h1, by simpa using h2, h3, by simpa using h4⟩
/-- The first transactions of a row of one's own. -/
def batchA (s : SV) (txs : List Tx) : HP := ex fun sf : SV => ex fun l : List Tx => lift (txs = l.take s.n ∧ s.a = sf.a ∧ s.n ≤ l.length) * txsA sf l
theorem batchA_close {s sf : SV} {txs l : List Tx} {R : HP} {w : World} (h : Sat (txsA sf l * R) w) (h1 : txs = l.take s.n) (h2 : s.a = sf.a) (h3 : s.n ≤ l.length) : Sat (batchA s txs * R) w := by
  simp only [batchA, ex_mul, mul_assoc', sat_ex, sat_lift]
  exact ⟨sf, l, ⟨h1, h2, h3⟩, h⟩
theorem batchA_on {s : SV} {txs : List Tx} {R : HP} {w : World} (h : Sat (batchA s txs * R) w) : txsOn (hp w) s txs := by
  simp only [batchA, ex_mul, mul_assoc', sat_ex, sat_lift] at h
  obtain ⟨sf, l, ⟨h1, h2, h3⟩, h⟩ := h
  have := txsOn_take (txsA_on h.left) h3 s.c
  rw [← h1, ← h2] at this
  exact this
theorem pairsA_spot {β : Type} {num : β → Int} {A : SV → β → HP} {s : SV} {l : List β} {R : HP} {w : World} (h : Sat (pairsA num A s l * R) w) (hl : 0 < l.length) : ∃ b, s.a = some ⟨b, 0, none⟩ ∧ l.length ≤ s.c := by
  obtain ⟨b, d, hb, _⟩ := pairsA_get h hl
  refine ⟨b, hb, ?_⟩
  have hn := pairsA_n h
  obtain ⟨xs, rfl, h1⟩ := pairsA_open h
  rcases ownS_cases h1 with ⟨_, e, _⟩ | ⟨_, e, _⟩
  · omega
  · omega
end Go.Proofs.Ytbolgpjcmchfoaa
/- Contracts of the manager: a batch is done. -/
namespace Go.Proofs.Ytbolgpjcmchfoaa
open Go Go.Vc Go.Sl Go.Mo
theorem row_sub {h : Heap} {s : SV} {vs : List Value} {k m : Nat} (hr : rowOn h s vs) (hsp : ∀ ad, s.a = some ad → ad.spot = none) (hn : vs.length = s.n) (hc : s.n ≤ s.c) (hk : k ≤ m) (hm : m ≤ s.n) (c : Nat) : rowOn h ⟨sub? s.a k s.c 1, m - k, c⟩ ((vs.drop k).take (m - k)) := by
  cases ha : s.a with
  | none =>
    have := hr.1 ha
    subst this
    refine ⟨fun _ => by simp, fun ad had i hi => by simp at hi⟩
  | some ad =>
    have hs := hsp ad ha
    obtain ⟨b, o, sp⟩ := ad
    simp only at hs; subst hs
    unfold sub?
    split
    · rename_i e
      have : m - k = 0 := by omega
      rw [this]
      exact ⟨fun _ => by simp, fun ad had i hi => by simp at hi⟩
    · refine ⟨fun e => by simp at e, fun ad had i hi => ?_⟩
      simp only [Option.map_some, Option.some.injEq] at had
      subst had
      have hi' : k + i < vs.length := by simp at hi; omega
      have := hr.2 _ ha (k + i) hi'
      simp only [add_mk, Nat.mul_one] at this ⊢
      rw [Nat.add_assoc]
      simpa using this
theorem all_one_ints (l : List Int) : (l.map intv).all Vc.one = true := by simp [intv, Vc.one]
theorem ownS_spot {sz : Nat} {s : SV} {vs : List Value} {R : HP} {w : World} (h : Sat (ownS sz s vs * R) w) (h0 : 0 < s.c) : ∃ b, s.a = some ⟨b, 0, none⟩ := by
  rcases ownS_cases h with ⟨e, _⟩ | ⟨_, _, b, _, _, e, _⟩
  · omega
  · exact ⟨b, e⟩
theorem ownS_cap {sz : Nat} {s : SV} {vs : List Value} {R : HP} {w : World} (h : Sat (ownS sz s vs * R) w) : s.n ≤ s.c := by
  rcases ownS_cases h with ⟨e, e', _⟩ | ⟨_, e, _⟩
  · omega
  · exact e
theorem end_keys {M : Mgr} {i st code k : Int} (h : (lkp M.all k).isSome) : (lkp (M.end_ i st code).all k).isSome := by
  unfold Mgr.end_
  split
  · exact h
  · simp only [lkp_put]; split
    · rfl
    · exact h
theorem end_rest (M : Mgr) (i st code : Int) : (M.end_ i st code).m = M.m ∧ (M.end_ i st code).queue = M.queue ∧ (M.end_ i st code).out = M.out ∧ (M.end_ i st code).num = M.num := by
  unfold Mgr.end_
  split <;> exact ⟨rfl, rfl, rfl, rfl⟩
theorem done_rest (code : Int) (M : Mgr) (x : Int × Tx) : (doneOne code M x).queue = M.queue ∧ (doneOne code M x).out = M.out ∧ (doneOne code M x).num = M.num := by
  unfold doneOne
  split
  · exact (end_rest _ _ _ _).2
  · exact (end_rest _ _ _ _).2
theorem done_keys {code : Int} {M : Mgr} {x : Int × Tx} {k : Int} (h : (lkp M.all k).isSome) : (lkp (doneOne code M x).all k).isSome := by
  unfold doneOne
  split
  · exact end_keys h
  · exact end_keys h
theorem foldl_done (code : Int) : ∀ (l : List (Int × Tx)) (M : Mgr), ((l.foldl (doneOne code) M).queue = M.queue ∧ (l.foldl (doneOne code) M).out = M.out ∧ (l.foldl (doneOne code) M).num = M.num) ∧ ∀ k, (lkp M.all k).isSome → (lkp (l.foldl (doneOne code) M).all k).isSome
  | [], M => ⟨⟨rfl, rfl, rfl⟩, fun _ h => h⟩
  | x :: r, M => by
    obtain ⟨⟨a, b, c⟩, d⟩ := foldl_done code r (doneOne code M x)
    obtain ⟨a', b', c'⟩ := done_rest code M x
    exact ⟨⟨a.trans a', b.trans b', c.trans c'⟩, fun k h => d k (done_keys h)⟩
theorem done_x {B : Nat} {code : Int} {M : Mgr} {x : Int × Tx} (ok : XOk B M.m) (hn : x.2.puts.length ≤ 2 ^ 13) : XOk (B + 1) (doneOne code M x).m := by
  unfold doneOne
  split
  · rw [(end_rest _ _ _ _).1]
    exact ⟨ok.1, Nat.le_trans ok.2.1 (Nat.mul_le_mul_right _ (Nat.le_succ B)), fun q hq => by obtain ⟨h1, h2, h3, h4⟩ := ok.2.2 q hq; exact ⟨h1, h2, by omega, h4⟩⟩
  · rw [(end_rest _ _ _ _).1]
    exact apply_ok ok hn
theorem foldl_done_x {code : Int} : ∀ (l : List (Int × Tx)) {B : Nat} {M : Mgr}, XOk B M.m → (∀ x ∈ l, x.2.puts.length ≤ 2 ^ 13) → XOk (B + l.length) (l.foldl (doneOne code) M).m
  | [], _, _, ok, _ => ok
  | x :: r, B, M, ok, hn => by
    have := foldl_done_x (code := code) r (done_x (code := code) ok (hn x (by simp))) fun y hy => hn y (by simp [hy])
    simp only [List.foldl_cons, List.length_cons]
    rw [show B + (r.length + 1) = B + 1 + r.length from by omega]
    exact this
theorem sat2 {A B X : HP} {w : World} (h : Sat (A * (B * X)) w) : Sat (A * (B * 1)) w := (h.eq (mul_assoc' A B X).symm).left.eq (by rw [mul_one'])
end Go.Proofs.Ytbolgpjcmchfoaa

