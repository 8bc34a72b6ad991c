/- The law 'TxnKeeps', walked. -/
import Derived.Test.YtbolgpjcmchfoaaGreatLm
import Derived.Test.YtbolgpjcmchfoaaGreatX
import Derived.Test.YtbolgpjcmchfoaaGreatF5
namespace Go.Proofs.YtbolgpjcmchfoaaGreat
open Go Go.Vc Go.Sl Go.Mo
/-- One byte of a row of one's own is counted up. -/
theorem poke {s : SV} {l : List UInt8} {i : Int} {R : HP} {w : World} {K : World → Prop} (h : Sat (byteRow s l * R) w) (h0 : 0 ≤ i) (hi : i < l.length) (hk : ∀ l' w', l'.length = l.length → Sat (byteRow s l' * R) w' → K w') :
    0 ≤ i ∧ i < ((s.n : Nat) : Int) ∧ onP s.a fun p => ∃ n : Int, w.cell? (p.add (i.toNat * 1)) = some (.int .u8 n) ∧ (0 ≤ i ∧ i < ((s.n : Nat) : Int) ∧ (onP s.a fun p => ((((∃ u, w.cell? (p.add (i.toNat * 1)) = some u) ∧ w.frozen? (p.add (i.toNat * 1)) = false)) ∧ (true = true) ∧ (withW (w.setCell (p.add (i.toNat * 1)) (.int .u8 (IntKind.u8.wrap (n + 1)))) K)))) := by
  have hn : s.n = l.length := by have := ownS_length h; rw [bytesV_length] at this; omega
  obtain ⟨j, rfl⟩ : ∃ j : Nat, i = j := ⟨i.toNat, by omega⟩
  have hj : j < l.length := by omega
  have hjv : j < (bytesV l).length := by rw [bytesV_length]; exact hj
  obtain ⟨b, hb, hc⟩ := ownS_cell h hjv
  have hcell : w.cell? ⟨b, j, none⟩ = some (.int .u8 l[j].toNat) := by rw [hc j hjv]; simp [bytesV]
  have hx : (IntKind.u8.wrap ((l[j].toNat : Int) + 1)) = ((UInt8.ofNat (l[j].toNat + 1)).toNat : Int) := by
    have := l[j].toNat_lt
    simp only [UInt8.toNat_ofNat', IntKind.wrap, IntKind.signed, IntKind.bits]
    simp
  have hsplit : bytesV l = bytesV (l.take j) ++ [.int .u8 l[j].toNat] ++ bytesV (l.drop (j + 1)) := by
    have : l = l.take j ++ [l[j]] ++ l.drop (j + 1) := by rw [← List.take_succ_eq_append_getElem hj, List.take_append_drop]
    conv => lhs; rw [this]
    rw [bytesV_append, bytesV_append]
    rfl
  obtain ⟨b', hb', hst, hset⟩ := ownS_store (news := [.int .u8 ((UInt8.ofNat (l[j].toNat + 1)).toNat : Int)]) h hsplit rfl (by simp)
  rw [hb] at hb'; cases hb'
  have hpl : (bytesV (l.take j)).length = j := by rw [bytesV_length, List.length_take]; omega
  rw [hpl] at hst hset
  rw [storable_iff] at hst
  have h1 := hst 0 (by simp)
  simp only [Nat.add_zero] at h1
  have e0 : (⟨b, j, none⟩ : Addr).add 0 = ⟨b, j, none⟩ := by rw [add_mk]; rfl
  rw [e0] at h1
  refine ⟨h0, by omega, onP_i hb ?_⟩
  rw [Int.toNat_natCast, Nat.mul_one, add_mk, Nat.zero_add]
  refine ⟨l[j].toNat, hcell, h0, by omega, onP_i hb ?_⟩
  rw [add_mk, Nat.zero_add]
  refine ⟨h1, rfl, ?_⟩
  rw [withW_iff, hx]
  refine hk (l.take j ++ [UInt8.ofNat (l[j].toNat + 1)] ++ l.drop (j + 1)) _ (by simp; omega) ?_
  have e2 : storeAll w ⟨b, j, none⟩ 0 [.int .u8 ((UInt8.ofNat (l[j].toNat + 1)).toNat : Int)] = w.setCell ⟨b, j, none⟩ (.int .u8 ((UInt8.ofNat (l[j].toNat + 1)).toNat : Int)) := by
    simp only [storeAll]; rw [e0]
  rw [e2] at hset
  unfold byteRow
  rw [bytesV_append, bytesV_append]
  exact hset
theorem bump {b : Nat} {n : Int} {v : Value} {R : HP} {w : World} {K : World → Prop} (h : Sat (objA (some ⟨b, 0, none⟩) [.int .i64 n, v] * R) w) (hk : ∀ w', Sat (objA (some ⟨b, 0, none⟩) [.int .i64 (IntKind.i64.wrap (n + 1)), v] * R) w' → K w') :
    0 ≤ (0 : Int) ∧ (0 : Int) < ((1 : Nat) : Int) ∧ (∃ n18 : Int, (w.cell? ((⟨b, 0, none⟩ : Addr).add ((0 : Int).toNat * 2)) = some (.int .i64 n18)) ∧ (0 ≤ (0 : Int) ∧ (0 : Int) < ((1 : Nat) : Int) ∧ ((((∃ u, w.cell? ((⟨b, 0, none⟩ : Addr).add ((0 : Int).toNat * 2)) = some u) ∧ w.frozen? ((⟨b, 0, none⟩ : Addr).add ((0 : Int).toNat * 2)) = false)) ∧ (true = true) ∧ (withW (w.setCell ((⟨b, 0, none⟩ : Addr).add ((0 : Int).toNat * 2)) (.int .i64 (IntKind.i64.wrap (n18 + 1)))) K)))) := by
  have e : (⟨b, 0, none⟩ : Addr).add ((0 : Int).toNat * 2) = ⟨b, 0, none⟩ := by rw [add_mk]; rfl
  rw [e]
  refine ⟨by omega, by omega, n, (objA_cells h).1 0, by omega, by omega, ?_⟩
  exact objA_store h (by simp) fun w' h' => hk w' (by simpa using h')
theorem box7 {v0 v1 v2 v3 v4 v5 v6 : Value} {t : Nat} {R : HP} {w : World} {K : World → Prop} (h : Sat R w) (hk : ∀ w', Sat (objA (some ⟨w.heap.size, 0, none⟩) [v0, v1, v2, v3, v4, v5, v6] * R) w' → K w') :
    withW (w.alloc (.cells #[.int .i64 0, .int .i64 0, .int .i64 0, .int .i64 0, .int .i64 0, .slice none 0 0, .slice none 0 0] t)) fun w33 => (((∃ u, w33.cell? (⟨w.heap.size, 0, none⟩ : Addr) = some u) ∧ w33.frozen? (⟨w.heap.size, 0, none⟩ : Addr) = false) ∧ ((∃ u, w33.cell? ((⟨w.heap.size, 0, none⟩ : Addr).add 1) = some u) ∧ w33.frozen? ((⟨w.heap.size, 0, none⟩ : Addr).add 1) = false) ∧ ((∃ u, w33.cell? ((⟨w.heap.size, 0, none⟩ : Addr).add 2) = some u) ∧ w33.frozen? ((⟨w.heap.size, 0, none⟩ : Addr).add 2) = false) ∧ ((∃ u, w33.cell? ((⟨w.heap.size, 0, none⟩ : Addr).add 3) = some u) ∧ w33.frozen? ((⟨w.heap.size, 0, none⟩ : Addr).add 3) = false) ∧ ((∃ u, w33.cell? ((⟨w.heap.size, 0, none⟩ : Addr).add 4) = some u) ∧ w33.frozen? ((⟨w.heap.size, 0, none⟩ : Addr).add 4) = false) ∧ ((∃ u, w33.cell? ((⟨w.heap.size, 0, none⟩ : Addr).add 5) = some u) ∧ w33.frozen? ((⟨w.heap.size, 0, none⟩ : Addr).add 5) = false) ∧ ((∃ u, w33.cell? ((⟨w.heap.size, 0, none⟩ : Addr).add 6) = some u) ∧ w33.frozen? ((⟨w.heap.size, 0, none⟩ : Addr).add 6) = false)) ∧ (true = true) ∧
      withW (((((((w33.setCell (⟨w.heap.size, 0, none⟩ : Addr) v0).setCell ((⟨w.heap.size, 0, none⟩ : Addr).add 1) v1).setCell ((⟨w.heap.size, 0, none⟩ : Addr).add 2) v2).setCell ((⟨w.heap.size, 0, none⟩ : Addr).add 3) v3).setCell ((⟨w.heap.size, 0, none⟩ : Addr).add 4) v4).setCell ((⟨w.heap.size, 0, none⟩ : Addr).add 5) v5).setCell ((⟨w.heap.size, 0, none⟩ : Addr).add 6) v6) K := by
  have h1 : Sat (objA (some ⟨w.heap.size, 0, none⟩) [.int .i64 0, .int .i64 0, .int .i64 0, .int .i64 0, .int .i64 0, .slice none 0 0, .slice none 0 0] * R) (w.alloc (.cells [.int .i64 0, .int .i64 0, .int .i64 0, .int .i64 0, .int .i64 0, .slice none 0 0, .slice none 0 0].toArray t)) := objA_new h
  rw [withW_iff]
  exact set7 h1 hk
/-- A row of one read, of one put, of one transaction's puts. -/
theorem one_read {s : SV} {x : Rd} {R : HP} {w : World} (h : Sat (readsA s [x] * R) w) : ∃ d, Sat (ownS 3 s [.int .i64 x.lba, slv d, .bool x.own] * (byteRow d x.data * R)) w := by
  obtain ⟨xs, hx, h1⟩ := readsA_open h
  match xs, hx with
  | [(d, y)], hx =>
    obtain rfl : y = x := by simpa using hx
    exact ⟨d, h1.eq (by simp only [List.flatMap_cons, List.flatMap_nil, List.append_nil, all, mul_one'])⟩
theorem one_put {s : SV} {x : Put} {R : HP} {w : World} (h : Sat (putsA s [x] * R) w) : ∃ d, Sat (ownS 2 s [.int .i64 x.lba, slv d] * (byteRow d x.data * R)) w := by
  obtain ⟨xs, hx, h1⟩ := pairsA_open (num := Put.lba) (A := fun s x => byteRow s x.data) h
  match xs, hx with
  | [(d, y)], hx =>
    obtain rfl : y = x := by simpa using hx
    exact ⟨d, h1.eq (by simp only [List.flatMap_cons, List.flatMap_nil, List.append_nil, all, mul_one'])⟩
theorem row3 {s d : SV} {a o : Value} {R : HP} {w : World} (h : Sat (ownS 3 s [a, slv d, o] * R) w) : s.n = 1 ∧ ∃ b, s.a = some ⟨b, 0, none⟩ ∧ w.cell? ⟨b, 1, none⟩ = some (slv d) := by
  have hl := ownS_length h
  obtain ⟨b, hb, hc⟩ := ownS_cell h (i := 1) (by simp)
  exact ⟨by simp at hl; omega, b, hb, hc 1 (by simp)⟩
theorem row2 {s d : SV} {a : Value} {R : HP} {w : World} (h : Sat (ownS 2 s [a, slv d] * R) w) : s.n = 1 ∧ ∃ b, s.a = some ⟨b, 0, none⟩ ∧ w.cell? ⟨b, 0, none⟩ = some a ∧ w.cell? ⟨b, 1, none⟩ = some (slv d) := by
  have hl := ownS_length h
  obtain ⟨b, hb, hc⟩ := ownS_cell h (i := 1) (by simp)
  exact ⟨by simp at hl; omega, b, hb, hc 0 (by simp), hc 1 (by simp)⟩
theorem one_batch {s : SV} {t : Int} {x : Put} {R : HP} {w : World} (h : Sat (batchA s [⟨t, [x]⟩] * R) w) : s.n = 1 ∧ ∃ b d c e, s.a = some ⟨b, 0, none⟩ ∧ w.cell? ⟨b, 1, none⟩ = some (slv d) ∧ d.n = 1 ∧ d.a = some ⟨c, 0, none⟩ ∧ w.cell? ⟨c, 1, none⟩ = some (slv e) ∧ ∃ A, Sat (A * (byteRow e x.data * R)) w ∧ ∀ w' y, Sat (A * (byteRow e y * R)) w' → w'.cell? ⟨b, 1, none⟩ = some (slv d) ∧ w'.cell? ⟨c, 1, none⟩ = some (slv e) := by
  have hn := (batchA_on h).1
  simp only [batchA, ex_mul, mul_assoc', sat_ex, sat_lift] at h
  obtain ⟨sf, l, ⟨h1, h2, h3⟩, h4⟩ := h
  simp only [List.length_singleton] at hn
  rw [hn] at h1 h3
  obtain ⟨xs, hx, h5⟩ := pairsA_open (num := Tx.time) (A := fun s x => putsA s x.puts) h4
  match xs, hx with
  | [], hx => subst hx; simp at h3
  | (d, y) :: xs', hx =>
    have hy : y = ⟨t, [x]⟩ := by subst hx; simpa using h1.symm
    subst hy
    have h6 : Sat (putsA d [x] * (ownS 2 sf (((d, (⟨t, [x]⟩ : Tx)) :: xs').flatMap fun x => [.int .i64 x.2.time, slv x.1]) * (Sl.all xs' (fun x => putsA x.1 x.2.puts) * R))) w := h5.eq (by simp only [all]; ac_rfl)
    obtain ⟨e, h7⟩ := one_put h6
    have h8 : Sat ((ownS 2 d [.int .i64 x.lba, slv e] * (ownS 2 sf (((d, (⟨t, [x]⟩ : Tx)) :: xs').flatMap fun x => [.int .i64 x.2.time, slv x.1]) * Sl.all xs' (fun x => putsA x.1 x.2.puts))) * (byteRow e x.data * R)) w := h7.eq (by ac_rfl)
    obtain ⟨dn, c, hc, _, hc1⟩ := row2 h7
    have hlen := flat2_length (fun x : SV × Tx => .int .i64 x.2.time) (fun x => slv x.1) ((d, (⟨t, [x]⟩ : Tx)) :: xs')
    have hsf : ∀ w' (B : HP), Sat (ownS 2 sf (((d, (⟨t, [x]⟩ : Tx)) :: xs').flatMap fun x => [.int .i64 x.2.time, slv x.1]) * B) w' → ∃ b, sf.a = some ⟨b, 0, none⟩ ∧ w'.cell? ⟨b, 1, none⟩ = some (slv d) := fun w' B hh => by
      obtain ⟨b, hb, hcc⟩ := ownS_cell hh (i := 1) (by rw [hlen]; simp; omega)
      exact ⟨b, hb, by rw [hcc 1 (by rw [hlen]; simp; omega)]; rfl⟩
    obtain ⟨b, hb, hb1⟩ := hsf w _ (h6.right)
    refine ⟨hn, b, d, c, e, by rw [h2]; exact hb, hb1, dn, hc, hc1, _, h8, fun w' z hz => ?_⟩
    have hz1 : Sat (ownS 2 d [.int .i64 x.lba, slv e] * (ownS 2 sf (((d, (⟨t, [x]⟩ : Tx)) :: xs').flatMap fun x => [.int .i64 x.2.time, slv x.1]) * (Sl.all xs' (fun x => putsA x.1 x.2.puts) * (byteRow e z * R)))) w' := hz.eq (by ac_rfl)
    obtain ⟨_, c', hc', _, hc1'⟩ := row2 hz1
    obtain ⟨b', hb', hb1'⟩ := hsf w' _ hz1.right
    rw [hc] at hc'; cases hc'
    rw [hb] at hb'; cases hb'
    exact ⟨hb1', hc1'⟩
def KM (T : Trn) : Mgr := { Mgr.new 20 0 with book := ⟨16, 1, [(1, 0)]⟩, all := [(1, T)] }
theorem keeps_c {a0 a1 : Int} {w : World} {K : Bool → World → Prop} (hk : ∀ w', Keep w w' → K true w') : c_scarplaw23_TxnKeeps a0 a1 w K := by
  refine scarplaw23_TxnKeeps_go ?_
  unfold f_scarplaw23_TxnKeeps
  refine round_c (by omega) (by omega) ?_
  obtain ⟨k, hk0⟩ : ∃ k, k = a0 % 19 := ⟨_, rfl⟩
  rw [← hk0]
  have hk' : 0 ≤ k ∧ k < 20 := by omega
  clear hk0
  refine mgr_new (n := 20) (last := 0) (sat_whole w) (by omega) (by omega) fun p w4 h4 => ?_
  refine bsplit_iff.2 ⟨fun e => (by cases e), fun _ => bsplit_iff.2 ⟨fun e => (by cases e), fun _ => ?_⟩⟩
  refine data_c h4 fun s5 w6 _ h6 => ?_
  have hDl : (blockB 40 a1).length = 40 := blockB_length _ _
  have hD60 : (blockB 40 a1).length ≤ 2 ^ 60 := by omega
  have h6' : Sat (mgrA (some ⟨p, 0, none⟩) (Mgr.new 20 0) * (byteRow s5 (blockB 40 a1) * whole w)) w6 := h6.eq (by unfold byteRow; ac_rfl)
  refine ok_begin h6' (mgrOk_new (by omega) (by omega)) (by omega) fun w8 ok8 h8 => ?_
  have hbg : (Mgr.new 20 0).begin = (KM (ot [] [] []), (1, 0)) := rfl
  rw [hbg] at ok8 h8 ⊢
  refine data_c h8 fun s9 w10 _ h10 => ?_
  generalize hDD : blockB 40 a1 = D at h10 hDl hD60
  rw [withW_iff]
  have h11 : Sat (objA (some ⟨w10.heap.size, 0, none⟩) [.int .i64 k, .slice s9.a s9.n s9.c] * (ownS 1 s9 (bytesV D) * (mgrA (some ⟨p, 0, none⟩) (KM (ot [] [] [])) * (byteRow s5 D * whole w)))) (w10.alloc (.cells [.int .i64 k, .slice s9.a s9.n s9.c].toArray 33)) := objA_new h10
  change Sat _ (w10.alloc (.cells #[.int .i64 k, .slice s9.a s9.n s9.c] 33)) at h11
  generalize w10.alloc (.cells #[.int .i64 k, .slice s9.a s9.n s9.c] 33) = w11 at h11 ⊢
  generalize w10.heap.size = pb at h11 ⊢
  refine bsplit_iff.2 ⟨fun e => (by simp at e), fun _ => ?_⟩
  have hwr : (KM (ot [] [] [])).write 1 [⟨k, D⟩] = (KM (ot [(k, D)] [] []), 0) := by
    have h1 : outOf 20 ⟨k, D⟩ = false := by simp [outOf]; omega
    have hw : Buf.write ⟨20, 16, []⟩ [⟨k, D⟩] = (⟨20, 16, [(k, D)]⟩, 0) := by simp [Buf.write, h1, badLen, hDl, twiceM, newOnes, putsIn, put, lkp]
    have ho : (KM (ot [] [] [])).opn 1 = some (ot [] [] []) := rfl
    unfold Mgr.write
    rw [ho]
    show (({ KM (ot [] [] []) with all := put (KM (ot [] [] [])).all 1 { ot [] [] [] with buf := (Buf.write ⟨20, 16, []⟩ [⟨k, D⟩]).1 } } : Mgr), (Buf.write ⟨20, 16, []⟩ [⟨k, D⟩]).2) = _
    rw [hw]; rfl
  refine ok_write (l := [⟨k, D⟩]) (h11.eq (by ac_rfl : _ = mgrA (some ⟨p, 0, none⟩) (KM (ot [] [] [])) * (objA (some ⟨pb, 0, none⟩) [.int .i64 k, .slice s9.a s9.n s9.c] * (ownS 1 s9 (bytesV D) * (byteRow s5 D * whole w))))) ok8 (fun w' hw' => ?_) (by simp) fun w13 ok13 h13 => ?_
  · have c := (objA_cells hw').1
    refine ⟨rfl, fun i hi => ?_⟩
    obtain rfl : i = 0 := by simpa using hi
    exact ⟨⟨pb, 0, none⟩, s9, rfl, c 0, c 1, byteRow_on hw'.right.left⟩
  rw [hwr] at ok13 h13 ⊢
  refine bsplit_iff.2 ⟨fun e => (by simp at e), fun _ => ?_⟩
  refine poke (h13.eq (by unfold byteRow; ac_rfl : _ = byteRow s9 D * (mgrA (some ⟨p, 0, none⟩) (KM (ot [(k, D)] [] [])) * (objA (some ⟨pb, 0, none⟩) [.int .i64 k, .slice s9.a s9.n s9.c] * (byteRow s5 D * whole w))))) (by omega) (by omega) fun D1 w17 hD1 h17 => ?_
  refine bump (h17.eq (by ac_rfl : _ = objA (some ⟨pb, 0, none⟩) [.int .i64 k, .slice s9.a s9.n s9.c] * (byteRow s9 D1 * (mgrA (some ⟨p, 0, none⟩) (KM (ot [(k, D)] [] [])) * (byteRow s5 D * whole w))))) fun w19 h19 => ?_
  refine box2 h19.right.right fun w21 _ h21 => ?_
  generalize w19.heap.size = xb at h21 ⊢
  have c21 := (objA_cells h21).1
  refine ⟨(k, 1), ⟨c21 0, by rw [add_mk]; exact c21 1⟩, ?_⟩
  have h21' : Sat (mgrA (some ⟨p, 0, none⟩) (KM (ot [(k, D)] [] [])) * (byteRow s5 D * (objA (some ⟨xb, 0, none⟩) [.int .i64 k, .int .i64 1] * whole w))) w21 := h21.eq (by ac_rfl)
  obtain ⟨rd, hrd⟩ : ∃ rd : Rd, rd = ⟨k, D, true⟩ := ⟨_, rfl⟩
  have hr1 : (KM (ot [(k, D)] [] [])).readE 1 ⟨k, 1⟩ = (KM (ot [(k, D)] [⟨k, 1⟩] [rd]), (D, 0)) := by
    have ho : (KM (ot [(k, D)] [] [])).opn 1 = some (ot [(k, D)] [] []) := rfl
    have hs : seenB (KM (ot [(k, D)] [] [])).m (ot [(k, D)] [] []).buf (ot [(k, D)] [] []).view.at_ k = rd := by
      rw [hrd]; unfold seenB; simp [ot, lkp]
    rw [readE_one ho (.inl rfl) (by simp [KM, Mgr.new]) hk', hs, hrd]
    rfl
  refine ok_read (e := ⟨k, 1⟩) h21' ok13 (by omega) fun s23 w24 ok24 h24 => ?_
  rw [hr1] at ok24 h24 ⊢
  refine bsplit_iff.2 ⟨fun e => (by simp at e), fun _ => ?_⟩
  refine bytes_c (byteRow_on h24.left) (byteRow_on h24.right.right.left) hD60 fun w26 k26 => ?_
  refine bsplit_iff.2 ⟨fun e => (by simp at e), fun _ => ?_⟩
  refine poke (k26.sat h24) (by omega) (by show (1 : Int) < D.length; omega) fun D2 w30 hD2 h30 => ?_
  -- the history
  have h30' := h30.right
  refine ok_history h30' ok24 (by omega) fun sr sp w32 h32 => ?_
  have hh : Mgr.hist (KM (ot [(k, D)] [⟨k, 1⟩] [rd])) 1 = (1, 0, 0, [rd], [⟨k, D⟩]) := by
    have : Buf.puts (ot [(k, D)] [⟨k, 1⟩] [rd]).buf = [⟨k, D⟩] := puts_one rfl
    unfold Mgr.hist
    have hl : lkp (KM (ot [(k, D)] [⟨k, 1⟩] [rd])).all 1 = some (ot [(k, D)] [⟨k, 1⟩] [rd]) := rfl
    rw [hl]
    simp only [this]
    rfl
  rw [hh] at h32 ⊢
  have h32' := Sat.frame ((h32.eq (mul_assoc' _ _ _).symm)) h30'
  refine box7 h32' fun w34 h34 => ?_
  generalize w32.heap.size = hb at h34 ⊢
  have h34a : Sat (readsA sr [rd] * (putsA sp [⟨k, D⟩] * (objA (some ⟨hb, 0, none⟩) [.int .i64 1, .int .i64 0, .int .i64 0, .int .i64 0, .int .i64 0, .slice sr.a sr.n sr.c, .slice sp.a sp.n sp.c] * (mgrA (some ⟨p, 0, none⟩) (KM (ot [(k, D)] [⟨k, 1⟩] [rd])) * (byteRow s5 D * (objA (some ⟨xb, 0, none⟩) [.int .i64 k, .int .i64 1] * whole w)))))) w34 := h34.eq (by ac_rfl)
  obtain ⟨dr, h34b⟩ := one_read h34a
  have h34c : Sat (putsA sp [⟨k, D⟩] * (ownS 3 sr [.int .i64 rd.lba, slv dr, .bool rd.own] * (byteRow dr rd.data * (objA (some ⟨hb, 0, none⟩) [.int .i64 1, .int .i64 0, .int .i64 0, .int .i64 0, .int .i64 0, .slice sr.a sr.n sr.c, .slice sp.a sp.n sp.c] * (mgrA (some ⟨p, 0, none⟩) (KM (ot [(k, D)] [⟨k, 1⟩] [rd])) * (byteRow s5 D * (objA (some ⟨xb, 0, none⟩) [.int .i64 k, .int .i64 1] * whole w))))))) w34 := h34b.eq (by ac_rfl)
  obtain ⟨dp, h34d⟩ := one_put h34c
  have hrdd : rd.data = D := by rw [hrd]
  rw [hrdd] at h34d
  have all34 : ∀ w' A B, Sat (ownS 2 sp [.int .i64 k, slv dp] * (byteRow dp A * (ownS 3 sr [.int .i64 rd.lba, slv dr, .bool rd.own] * (byteRow dr B * (objA (some ⟨hb, 0, none⟩) [.int .i64 1, .int .i64 0, .int .i64 0, .int .i64 0, .int .i64 0, .slice sr.a sr.n sr.c, .slice sp.a sp.n sp.c] * (mgrA (some ⟨p, 0, none⟩) (KM (ot [(k, D)] [⟨k, 1⟩] [rd])) * (byteRow s5 D * (objA (some ⟨xb, 0, none⟩) [.int .i64 k, .int .i64 1] * whole w)))))))) w' →
      w'.cell? ⟨hb, 5, none⟩ = some (.slice sr.a sr.n sr.c) ∧ w'.cell? ⟨hb, 6, none⟩ = some (.slice sp.a sp.n sp.c) := fun w' A B hw' => ⟨(objA_cells hw'.right.right.right.right).1 5, (objA_cells hw'.right.right.right.right).1 6⟩
  obtain ⟨srn, rb, hsra, hsr1⟩ := row3 h34d.right.right
  obtain ⟨spn, qb, hspa, hsp0, hsp1⟩ := row2 h34d
  have ca := all34 _ _ _ h34d
  have e03 : (0 : Int).toNat * 3 = 0 := rfl
  have e02 : (0 : Int).toNat * 2 = 0 := rfl
  refine ⟨sr, by rw [add_mk]; exact ca.1, ?_⟩
  rw [srn]
  refine bsplit_iff.2 ⟨fun e => (by simp at e), fun _ => ⟨sp, by rw [add_mk]; exact ca.2, ?_⟩⟩
  rw [spn]
  refine bsplit_iff.2 ⟨fun e => (by simp at e), fun _ => ⟨sr, by rw [add_mk]; exact ca.1, by omega, by omega, onP_i hsra ⟨dr, by rw [e03, add_mk, add_mk]; exact hsr1, ?_⟩⟩⟩
  refine bytes_c (byteRow_on h34d.right.right.right.left) (byteRow_on h34d.right.right.right.right.right.right.left) hD60 fun w41 k41 => ?_
  refine bsplit_iff.2 ⟨fun e => (by simp at e), fun _ => ?_⟩
  have h41 := k41.sat h34d
  refine ⟨sr, by rw [add_mk]; exact (all34 _ _ _ h41).1, by omega, by omega, onP_i hsra ⟨dr, by rw [e03, add_mk, add_mk]; exact keep_cell k41 hsr1, ?_⟩⟩
  refine poke (h41.eq (by ac_rfl : _ = byteRow dr D * (ownS 2 sp [.int .i64 k, slv dp] * (byteRow dp D * (ownS 3 sr [.int .i64 rd.lba, slv dr, .bool rd.own] * (objA (some ⟨hb, 0, none⟩) [.int .i64 1, .int .i64 0, .int .i64 0, .int .i64 0, .int .i64 0, .slice sr.a sr.n sr.c, .slice sp.a sp.n sp.c] * (mgrA (some ⟨p, 0, none⟩) (KM (ot [(k, D)] [⟨k, 1⟩] [rd])) * (byteRow s5 D * (objA (some ⟨xb, 0, none⟩) [.int .i64 k, .int .i64 1] * whole w))))))))) (by omega) (by omega) fun D3 w48 hD3 h48 => ?_
  have h48' := h48.eq (by ac_rfl : _ = ownS 2 sp [.int .i64 k, slv dp] * (byteRow dp D * (ownS 3 sr [.int .i64 rd.lba, slv dr, .bool rd.own] * (byteRow dr D3 * (objA (some ⟨hb, 0, none⟩) [.int .i64 1, .int .i64 0, .int .i64 0, .int .i64 0, .int .i64 0, .slice sr.a sr.n sr.c, .slice sp.a sp.n sp.c] * (mgrA (some ⟨p, 0, none⟩) (KM (ot [(k, D)] [⟨k, 1⟩] [rd])) * (byteRow s5 D * (objA (some ⟨xb, 0, none⟩) [.int .i64 k, .int .i64 1] * whole w))))))))
  obtain ⟨_, qb', hspa', _, hsp1'⟩ := row2 h48'
  rw [hspa] at hspa'; cases hspa'
  refine ⟨sp, by rw [add_mk]; exact (all34 _ _ _ h48').2, by omega, by omega, onP_i hspa ⟨dp, by rw [e02, add_mk, add_mk]; exact hsp1', ?_⟩⟩
  refine poke (h48'.eq (by ac_rfl : _ = byteRow dp D * ((ownS 2 sp [.int .i64 k, slv dp] * (ownS 3 sr [.int .i64 rd.lba, slv dr, .bool rd.own] * (byteRow dr D3 * objA (some ⟨hb, 0, none⟩) [.int .i64 1, .int .i64 0, .int .i64 0, .int .i64 0, .int .i64 0, .slice sr.a sr.n sr.c, .slice sp.a sp.n sp.c]))) * (mgrA (some ⟨p, 0, none⟩) (KM (ot [(k, D)] [⟨k, 1⟩] [rd])) * (byteRow s5 D * (objA (some ⟨xb, 0, none⟩) [.int .i64 k, .int .i64 1] * whole w)))))) (by omega) (by omega) fun D4 w55 hD4 h55 => ?_
  have h55' := h55.right.right
  clear h55 h48' h48 h41 h34d h34c h34b h34a h34 h32' h32 h30 h30' h24 h21' h21 h19 h17 h13
  -- the commit
  have hcm : (KM (ot [(k, D)] [⟨k, 1⟩] [rd])).commit 1 = ({ Mgr.new 20 0 with book := ⟨16, 1, [(1, 0)]⟩, all := [(1, { ot [(k, D)] [⟨k, 1⟩] [rd] with state := 2, time := 1 })], given := 1, queue := [1] }, 0) := by
    have ho : (KM (ot [(k, D)] [⟨k, 1⟩] [rd])).opn 1 = some (ot [(k, D)] [⟨k, 1⟩] [rd]) := rfl
    have hm : (KM (ot [(k, D)] [⟨k, 1⟩] [rd])).may (ot [(k, D)] [⟨k, 1⟩] [rd]) = 0 := by
      have hw : (KM (ot [(k, D)] [⟨k, 1⟩] [rd])).waiting = [] := rfl
      have hv := valid_nil (M := (KM (ot [(k, D)] [⟨k, 1⟩] [rd])).m) rfl (ot [(k, D)] [⟨k, 1⟩] [rd]).at_ (viewSet (ot [(k, D)] [⟨k, 1⟩] [rd]).view) (bufSet (ot [(k, D)] [⟨k, 1⟩] [rd]).buf)
      unfold Mgr.may
      rw [if_neg (by simp [KM, Mgr.new]), hw, hv]
      simp [KM, Mgr.new]
    unfold Mgr.commit
    rw [ho]
    simp only []
    rw [if_neg (by simp [ot]), hm]
    rfl
  refine ok_commit h55' ok24 (by omega) fun w57 ok57 h57 => ?_
  rw [hcm] at ok57 h57 ⊢
  generalize hMa : ({ Mgr.new 20 0 with book := ⟨16, 1, [(1, 0)]⟩, all := [(1, { ot [(k, D)] [⟨k, 1⟩] [rd] with state := 2, time := 1 })], given := 1, queue := [1] } : Mgr) = Ma at ok57 h57 ⊢
  refine bsplit_iff.2 ⟨fun e => (by simp at e), fun _ => ?_⟩
  have hput : Buf.puts ({ ot [(k, D)] [⟨k, 1⟩] [rd] with state := 2, time := 1 } : Trn).buf = [⟨k, D⟩] := puts_one rfl
  have hwt : ∀ o, Mgr.waiting { Ma with out := o } = [⟨1, [⟨k, D⟩]⟩] := fun o => by rw [← hput]; subst hMa; rfl
  have hwt0 : Ma.waiting = [⟨1, [⟨k, D⟩]⟩] := hwt Ma.out
  refine ok_batch h57 ok57 (by omega) fun sB w59 ok59 h59 => ?_
  have hba : Ma.batch = ({ Ma with out := 1 }, ((1, [⟨1, [⟨k, D⟩]⟩]), 0)) := by
    unfold Mgr.batch
    rw [if_neg (by subst hMa; simp [Mgr.new]), if_neg (by subst hMa; simp), hwt0]
    have hn : Ma.num = 0 := by subst hMa; rfl
    simp [formL, hn]
  rw [hba] at ok59 h59 ⊢
  refine box2 h59 fun w61 _ h61 => ?_
  generalize w59.heap.size = vb at h61 ⊢
  refine bsplit_iff.2 ⟨fun e => (by simp at e), fun _ => ?_⟩
  have h61' : Sat (batchA sB [⟨1, [⟨k, D⟩]⟩] * (objA (some ⟨vb, 0, none⟩) [.int .i64 1, .slice sB.a sB.n sB.c] * (mgrA (some ⟨p, 0, none⟩) { Ma with out := 1 } * (byteRow s5 D * (objA (some ⟨xb, 0, none⟩) [.int .i64 k, .int .i64 1] * whole w))))) w61 := h61.eq (by ac_rfl)
  obtain ⟨sBn, bb, bd, bc, be, hsBa, hB1, bdn, hbda, hC1, A, hA, hAc⟩ := one_batch h61'
  have cv : ∀ w' y, Sat (A * (byteRow be y * (objA (some ⟨vb, 0, none⟩) [.int .i64 1, .slice sB.a sB.n sB.c] * (mgrA (some ⟨p, 0, none⟩) { Ma with out := 1 } * (byteRow s5 D * (objA (some ⟨xb, 0, none⟩) [.int .i64 k, .int .i64 1] * whole w)))))) w' → w'.cell? ((⟨vb, 0, none⟩ : Addr).add 1) = some (.slice sB.a sB.n sB.c) := fun w' y hw' => by
    rw [add_mk]; exact (objA_cells hw'.right.right).1 1
  refine ⟨sB, cv _ _ hA, ?_⟩
  rw [sBn]
  refine bsplit_iff.2 ⟨fun e => (by simp at e), fun _ => ⟨sB, cv _ _ hA, by omega, by omega, onP_i hsBa ⟨bd, by rw [e02, add_mk, add_mk]; exact hB1, ?_⟩⟩⟩
  rw [bdn]
  refine bsplit_iff.2 ⟨fun e => (by simp at e), fun _ => ⟨sB, cv _ _ hA, by omega, by omega, onP_i hsBa ⟨bd, by rw [e02, add_mk, add_mk]; exact hB1, by omega, by omega, onP_i hbda ⟨be, by rw [e02, add_mk, add_mk]; exact hC1, ?_⟩⟩⟩⟩
  refine bytes_c (byteRow_on hA.right.left) (byteRow_on hA.right.right.right.right.left) hD60 fun w72 k72 => ?_
  refine bsplit_iff.2 ⟨fun e => (by simp at e), fun _ => ?_⟩
  have h72 := k72.sat hA
  refine ⟨sB, cv _ _ h72, by omega, by omega, onP_i hsBa ⟨bd, by rw [e02, add_mk, add_mk]; exact keep_cell k72 hB1, by omega, by omega, onP_i hbda ⟨be, by rw [e02, add_mk, add_mk]; exact keep_cell k72 hC1, ?_⟩⟩⟩
  refine poke (h72.eq (by ac_rfl : _ = byteRow be D * ((A * objA (some ⟨vb, 0, none⟩) [.int .i64 1, .slice sB.a sB.n sB.c]) * (mgrA (some ⟨p, 0, none⟩) { Ma with out := 1 } * (byteRow s5 D * (objA (some ⟨xb, 0, none⟩) [.int .i64 k, .int .i64 1] * whole w)))))) (by omega) (by omega) fun D5 w81 hD5 h81 => ?_
  have h81' := h81.right.right
  clear h81 h72 hA h61' h61 h59 h57 h55'
  have hap : (XMap.apply ⟨20, [], 0⟩ ⟨1, [⟨k, D⟩]⟩).1 = ⟨20, [(k, [⟨1, D⟩])], 1⟩ := by
    have hi : inB ⟨20, [], 0⟩ k = true := by simp [inB]; omega
    simp [XMap.apply, riseM, hi, badLen, hDl, addVer, put, versOf, lkp]
  have hdo : Mgr.done { Ma with out := 1 } 0 = ({ Mgr.new 20 0 with m := ⟨20, [(k, [⟨1, D⟩])], 1⟩, book := ⟨16, 1, []⟩, all := [(1, { ot [(k, D)] [⟨k, 1⟩] [rd] with state := 3, time := 1 })], num := 1, last := 1, given := 1 }, 0) := by
    unfold Mgr.done
    rw [if_neg (by simp), hwt 1]
    subst hMa
    have : doneOne 0 { Mgr.new 20 0 with book := ⟨16, 1, [(1, 0)]⟩, all := [(1, { ot [(k, D)] [⟨k, 1⟩] [rd] with state := 2, time := 1 })], given := 1, queue := [1], out := 1 } (1, ⟨1, [⟨k, D⟩]⟩) = ({ Mgr.new 20 0 with m := (XMap.apply ⟨20, [], 0⟩ ⟨1, [⟨k, D⟩]⟩).1, book := ⟨16, 1, [(1, 0)]⟩, all := [(1, { ot [(k, D)] [⟨k, 1⟩] [rd] with state := 2, time := 1 })], given := 1, queue := [1], out := 1, last := 1 } : Mgr).end_ 1 3 0 := rfl
    show (({ (doneOne 0 { Mgr.new 20 0 with book := ⟨16, 1, [(1, 0)]⟩, all := [(1, { ot [(k, D)] [⟨k, 1⟩] [rd] with state := 2, time := 1 })], given := 1, queue := [1], out := 1 } (1, ⟨1, [⟨k, D⟩]⟩)) with num := 1, queue := [], out := 0 } : Mgr), (0 : Int)) = _
    rw [this, hap]
    rfl
  refine ok_done h81' ok59 (by omega) fun w83 ok83 h83 => ?_
  rw [hdo] at ok83 h83 ⊢
  generalize hMb : ({ Mgr.new 20 0 with m := ⟨20, [(k, [⟨1, D⟩])], 1⟩, book := ⟨16, 1, []⟩, all := [(1, { ot [(k, D)] [⟨k, 1⟩] [rd] with state := 3, time := 1 })], num := 1, last := 1, given := 1 } : Mgr) = Mb at ok83 h83 ⊢
  refine bsplit_iff.2 ⟨fun e => (by simp at e), fun _ => ?_⟩
  refine ok_dump h83 ok83 (by omega) fun sD w85 h85 => ?_
  have hdm : Mb.m.dump = [⟨k, D⟩] := by
    subst hMb
    unfold XMap.dump
    have : sortI [k] = [k] := sortI_one k
    simp [this, versOf, lkp]
  rw [hdm] at h85
  obtain ⟨dd, h85b⟩ := one_put (Sat.frame h85 h83)
  obtain ⟨sDn, db, hsDa, hsD0, hsD1⟩ := row2 h85b
  rw [sDn]
  refine bsplit_iff.2 ⟨fun e => (by simp at e), fun _ => ⟨by omega, by omega, onP_i hsDa ⟨k, by rw [e02, add_mk]; exact hsD0, bsplit_iff.2 ⟨fun e => (by simp at e), fun _ => ⟨by omega, by omega, onP_i hsDa ⟨dd, by rw [e02, add_mk, add_mk]; exact hsD1, ?_⟩⟩⟩⟩⟩⟩
  refine bytes_c (byteRow_on h85b.right.left) (byteRow_on h85b.right.right.right.left) hD60 fun w91 k91 => ?_
  refine bsplit_iff.2 ⟨fun e => (by simp at e), fun _ => ⟨by omega, by omega, onP_i hsDa ⟨dd, by rw [e02, add_mk, add_mk]; exact keep_cell k91 hsD1, ?_⟩⟩⟩
  refine poke ((k91.sat h85b).eq (by ac_rfl : _ = byteRow dd D * (ownS 2 sD [.int .i64 k, slv dd] * (mgrA (some ⟨p, 0, none⟩) Mb * (byteRow s5 D * (objA (some ⟨xb, 0, none⟩) [.int .i64 k, .int .i64 1] * whole w)))))) (by omega) (by show (5 : Int) < D.length; omega) fun D6 w97 hD6 h97 => ?_
  have h97' := h97.right.right
  clear h97 h85b h85 h83 h81'
  have hbg2 : Mb.begin = ({ Mb with book := ⟨16, 2, [(2, 1)]⟩, all := [(1, { ot [(k, D)] [⟨k, 1⟩] [rd] with state := 3, time := 1 }), (2, ⟨1, 0, 0, 1, ⟨20, 16, []⟩, ⟨1, ⟨64, []⟩, []⟩⟩)] }, (2, 0)) := by subst hMb; rfl
  refine ok_begin h97' ok83 (by omega) fun w99 ok99 h99 => ?_
  rw [hbg2] at ok99 h99 ⊢
  have c99 := (objA_cells h99.right.right).1
  refine ⟨(k, 1), ⟨c99 0, by rw [add_mk]; exact c99 1⟩, ?_⟩
  have hg1 : (seenB ⟨20, [(k, [⟨1, D⟩])], 1⟩ ⟨20, 16, []⟩ 1 k).data = D := by simp [seenB, lkp, XMap.get, versOf, valAt, upTo]
  obtain ⟨Mc, hr2, hMc⟩ : ∃ Mc, Mgr.readE { Mb with book := ⟨16, 2, [(2, 1)]⟩, all := [(1, { ot [(k, D)] [⟨k, 1⟩] [rd] with state := 3, time := 1 }), (2, ⟨1, 0, 0, 1, ⟨20, 16, []⟩, ⟨1, ⟨64, []⟩, []⟩⟩)] } 2 ⟨k, 1⟩ = (Mc, (D, 0)) ∧ lkp Mc.all 1 = some { ot [(k, D)] [⟨k, 1⟩] [rd] with state := 3, time := 1 } := by
    rw [readE_one (T := ⟨1, 0, 0, 1, ⟨20, 16, []⟩, ⟨1, ⟨64, []⟩, []⟩⟩) rfl (.inl rfl) (by subst hMb; simp) (by subst hMb; exact hk')]
    subst hMb
    exact ⟨_, Prod.ext rfl (Prod.ext hg1 rfl), rfl⟩
  refine ok_read (e := ⟨k, 1⟩) h99 ok99 (by omega) fun sR w102 ok102 h102 => ?_
  rw [hr2] at ok102 h102 ⊢
  have h102' := h102.eq (by ac_rfl : _ = mgrA (some ⟨p, 0, none⟩) Mc * (byteRow sR D * (byteRow s5 D * (objA (some ⟨xb, 0, none⟩) [.int .i64 k, .int .i64 1] * whole w))))
  refine ok_history h102' ok102 (by omega) fun tr tp w104 h104 => ?_
  have hh2 : Mgr.hist Mc 1 = (3, 0, 1, [rd], [⟨k, D⟩]) := by
    have : Buf.puts ({ ot [(k, D)] [⟨k, 1⟩] [rd] with state := 3, time := 1 } : Trn).buf = [⟨k, D⟩] := puts_one rfl
    unfold Mgr.hist
    rw [hMc]
    simp only [this]
    rfl
  rw [hh2] at h104 ⊢
  have h104' := Sat.frame ((h104.eq (mul_assoc' _ _ _).symm)) h102'
  refine box7 h104' fun w106 h106 => ?_
  generalize w104.heap.size = hb2 at h106 ⊢
  have h106a : Sat (readsA tr [rd] * (putsA tp [⟨k, D⟩] * (objA (some ⟨hb2, 0, none⟩) [.int .i64 3, .int .i64 0, .int .i64 1, .int .i64 0, .int .i64 0, .slice tr.a tr.n tr.c, .slice tp.a tp.n tp.c] * (mgrA (some ⟨p, 0, none⟩) Mc * (byteRow sR D * (byteRow s5 D * (objA (some ⟨xb, 0, none⟩) [.int .i64 k, .int .i64 1] * whole w))))))) w106 := h106.eq (by ac_rfl)
  obtain ⟨er, h106b⟩ := one_read h106a
  rw [hrdd] at h106b
  have h106c : Sat (putsA tp [⟨k, D⟩] * (ownS 3 tr [.int .i64 rd.lba, slv er, .bool rd.own] * (byteRow er D * (objA (some ⟨hb2, 0, none⟩) [.int .i64 3, .int .i64 0, .int .i64 1, .int .i64 0, .int .i64 0, .slice tr.a tr.n tr.c, .slice tp.a tp.n tp.c] * (mgrA (some ⟨p, 0, none⟩) Mc * (byteRow sR D * (byteRow s5 D * (objA (some ⟨xb, 0, none⟩) [.int .i64 k, .int .i64 1] * whole w)))))))) w106 := h106b.eq (by ac_rfl)
  obtain ⟨ep, h106d⟩ := one_put h106c
  obtain ⟨trn, trb, htra, htr1⟩ := row3 h106d.right.right
  obtain ⟨tpn, tpb, htpa, _, htp1⟩ := row2 h106d
  have hcl := (objA_cells h106d.right.right.right.right).1
  have s5on := byteRow_on h106d.right.right.right.right.right.right.right.left
  refine bsplit_iff.2 ⟨fun _ => bsplit_iff.2 ⟨fun _ => ?_, fun e => (by simp at e)⟩, fun e => (by simp at e)⟩
  refine bytes_c (byteRow_on h106d.right.right.right.right.right.right.left) s5on hD60 fun w108 k108 => ?_
  refine bsplit_iff.2 ⟨fun _ => ⟨tr, by rw [add_mk]; exact keep_cell k108 (hcl 5), ?_⟩, fun e => (by simp at e)⟩
  rw [trn]
  refine bsplit_iff.2 ⟨fun _ => ⟨tr, by rw [add_mk]; exact keep_cell k108 (hcl 5), by omega, by omega, onP_i htra ⟨er, by rw [e03, add_mk, add_mk]; exact keep_cell k108 htr1, ?_⟩⟩, fun e => (by simp at e)⟩
  refine bytes_c (byteRow_on (k108.sat h106d.right.right.right.left)) (bytesOn_le (keep_le k108) s5on) hD60 fun w114 k114 => ?_
  have k2 := k108.trans k114
  refine bsplit_iff.2 ⟨fun _ => ⟨tp, by rw [add_mk]; exact keep_cell k2 (hcl 6), by omega, by omega, onP_i htpa ⟨ep, by rw [e02, add_mk, add_mk]; exact keep_cell k2 htp1, ?_⟩⟩, fun e => (by simp at e)⟩
  refine bytes_c (byteRow_on (k2.sat h106d.right.left)) (bytesOn_le (keep_le k2) s5on) hD60 fun w119 k119 => ?_
  refine bsplit_iff.2 ⟨fun _ => ?_, fun e => (by simp at e)⟩
  exact awake_c fun w121 k121 => hk _ ((Keep.whole h106d.right.right.right.right.right.right.right.right.right).trans (k2.trans (k119.trans k121)))
theorem keeps_row (w : World) (a0 a1 : Int) : Calls Tryz.prog 12 #[.int .i64 a0, .int .i64 a1] w fun e w' => e = .returned (.bool true) ∧ RowKit.Below w.heap.size w w' := row_of (keeps_c fun _ k => ⟨rfl, k⟩)
end Go.Proofs.YtbolgpjcmchfoaaGreat
