/- The law 'TxnLoads', walked. -/
import Derived.Test.YtbolgpjcmchfoaaGreatLm
import Derived.Test.YtbolgpjcmchfoaaGreatE
namespace Go.Proofs.YtbolgpjcmchfoaaGreat
open Go Go.Vc Go.Sl Go.Mo
theorem apply_fail {X : XMap} {t : Tx} (h : (X.apply t).2 ≠ 0) : (X.apply t).1 = X := by
  unfold XMap.apply at h ⊢
  split
  · rfl
  · rename_i h1
    rw [if_neg h1] at h
    split
    · rfl
    · rename_i h2
      rw [if_neg h2] at h
      split
      · rfl
      · rename_i h3
        rw [if_neg h3] at h
        split
        · rfl
        · rename_i h4
          rw [if_neg h4] at h
          exact absurd rfl h
theorem foldl_new {t : Int} : ∀ (l : List Put) (acc : List (Int × List Put)), (l.map Put.lba).Nodup → (∀ p ∈ l, lkp acc p.lba = none) → l.foldl (addVer t) acc = acc ++ l.map fun p => (p.lba, [⟨t, p.data⟩])
  | [], acc, _, _ => by simp
  | x :: r, acc, hn, ha => by
    simp only [List.map_cons, List.nodup_cons] at hn
    have h0 := ha x (by simp)
    have e : addVer t acc x = acc ++ [(x.lba, [⟨t, x.data⟩])] := by
      unfold addVer versOf
      rw [h0, put_new h0]; rfl
    rw [List.foldl_cons, e, foldl_new r _ hn.2 fun p hp => ?_]
    · simp
    · have : p.lba ≠ x.lba := fun e => hn.1 (e ▸ List.mem_map_of_mem (f := Put.lba) hp)
      rw [← put_new h0, lkp_put, if_neg this]
      exact ha p (by simp [hp])
theorem rise_range {l : List Put} {n : Int} (hr : riseM l = true) (h0 : 0 ≤ (l.headD ⟨0, []⟩).lba) (h1 : (l.getLastD ⟨0, []⟩).lba < n) : ∀ p ∈ l, 0 ≤ p.lba ∧ p.lba < n := by
  have hr' : 0 < l.length ∧ (l.map Put.lba).Pairwise (· < ·) := by simpa [riseM] using hr
  obtain ⟨hpos, hp⟩ := hr'
  have hp' := List.pairwise_iff_getElem.1 hp
  have e0 : (l.headD ⟨0, []⟩) = l[0] := by cases l with | nil => simp at hpos | cons x r => rfl
  have e1 : (l.getLastD ⟨0, []⟩) = l[l.length - 1] := by rw [List.getLastD_eq_getLast?, List.getLast?_eq_getElem?, List.getElem?_eq_getElem (by omega)]; rfl
  rw [e0] at h0
  rw [e1] at h1
  intro p hpm
  obtain ⟨j, hj, rfl⟩ := List.getElem_of_mem hpm
  have a : l[0].lba ≤ l[j].lba := by
    rcases Nat.eq_zero_or_pos j with e | e
    · subst e; exact Int.le_refl _
    · have := hp' 0 j (by simpa using hpos) (by simpa using hj) e
      simp only [List.getElem_map] at this; omega
  have b : l[j].lba ≤ l[l.length - 1].lba := by
    by_cases e : j = l.length - 1
    · subst e; exact Int.le_refl _
    · have := hp' j (l.length - 1) (by simpa using hj) (by simp; omega) (by omega)
      simp only [List.getElem_map] at this; omega
  omega
theorem nodup_of_lt {l : List Int} (h : l.Pairwise (· < ·)) : l.Nodup := h.imp fun h => by omega
theorem apply_fresh {n t : Int} {l : List Put} (h : (XMap.apply ⟨n, [], 0⟩ ⟨t, l⟩).2 = 0) :
    (XMap.apply ⟨n, [], 0⟩ ⟨t, l⟩).1 = ⟨n, l.map fun p => (p.lba, [⟨t, p.data⟩]), t⟩ ∧ 0 < t ∧ (l.map Put.lba).Pairwise (· < ·) ∧ ∀ p ∈ l, (0 ≤ p.lba ∧ p.lba < n) ∧ p.data.length = 40 := by
  unfold XMap.apply at h ⊢
  simp only at h ⊢
  split at h
  · simp at h
  · rename_i h1
    split at h
    · simp at h
    · rename_i h2
      split at h
      · simp at h
      · rename_i h3
        split at h
        · simp at h
        · rename_i h4
          have hr : riseM l = true := by simpa using h2
          have hp : (l.map Put.lba).Pairwise (· < ·) := by have : 0 < l.length ∧ (l.map Put.lba).Pairwise (· < ·) := by simpa [riseM] using hr
                                                           exact this.2
          rw [if_neg h1, if_neg h2, if_neg h3, if_neg h4]
          have hin : inB ⟨n, [], 0⟩ (l.headD ⟨0, []⟩).lba = true ∧ inB ⟨n, [], 0⟩ (l.getLastD ⟨0, []⟩).lba = true := by
            constructor
            · cases e : inB ⟨n, [], 0⟩ (l.headD ⟨0, []⟩).lba
              · exact absurd (.inl e) h3
              · rfl
            · cases e : inB ⟨n, [], 0⟩ (l.getLastD ⟨0, []⟩).lba
              · exact absurd (.inr e) h3
              · rfl
          simp only [inB, decide_eq_true_eq] at hin
          refine ⟨?_, by omega, hp, fun p hpm => ⟨rise_range hr hin.1.1 hin.2.2 p hpm, ?_⟩⟩
          · rw [foldl_new l [] (nodup_of_lt hp) (fun p _ => rfl)]; simp
          · have := List.any_eq_false.1 (by simpa using h4 : l.any badLen = false) p hpm
            simpa [badLen] using this
theorem vers_map {l : List Put} {t : Int} (hp : (l.map Put.lba).Pairwise (· < ·)) {p : Put} (h : p ∈ l) : versOf (l.map fun p => (p.lba, [(⟨t, p.data⟩ : Put)])) p.lba = [⟨t, p.data⟩] := by
  have hn : ((l.map fun p => (p.lba, [(⟨t, p.data⟩ : Put)])).map Prod.fst).Nodup := by
    rw [List.map_map]; exact nodup_of_lt hp
  unfold versOf
  rw [lkp_of_mem hn (List.mem_map.2 ⟨p, h, rfl⟩)]; rfl
theorem dump_map {n t c : Int} {l : List Put} (hp : (l.map Put.lba).Pairwise (· < ·)) : XMap.dump ⟨n, l.map fun p => (p.lba, [⟨t, p.data⟩]), c⟩ = l := by
  unfold XMap.dump
  have hk : (l.map fun p => (p.lba, [(⟨t, p.data⟩ : Put)])).map Prod.fst = l.map Put.lba := by rw [List.map_map]; rfl
  have hs : sortI (l.map Put.lba) = l.map Put.lba := by
    unfold sortI
    exact List.mergeSort_of_pairwise (hp.imp fun h => by simpa using Int.le_of_lt h)
  simp only [hk, hs, List.map_map]
  have : ∀ p ∈ l, ((fun k => (⟨k, ((versOf (l.map fun p => (p.lba, [(⟨t, p.data⟩ : Put)])) k).getLastD ⟨0, []⟩).data⟩ : Put)) ∘ Put.lba) p = id p := fun p h => by
    simp only [Function.comp_def, vers_map hp h]
    rfl
  rw [List.map_congr_left this, List.map_id]
theorem rise_length {l : List Int} {n : Nat} (hp : l.Pairwise (· < ·)) (hr : ∀ x ∈ l, 0 ≤ x ∧ x < (n : Int)) : l.length ≤ n := by
  have hp' := List.pairwise_iff_getElem.1 hp
  have key : ∀ i (hi : i < l.length), (i : Int) ≤ l[i] := by
    intro i
    induction i with
    | zero => intro hi; exact (hr _ (List.getElem_mem hi)).1
    | succ i ih =>
      intro hi
      have := hp' i (i + 1) (by omega) hi (by omega)
      have := ih (by omega)
      omega
  rcases Nat.lt_or_ge n l.length with h | h
  · have := key n h
    have := hr _ (List.getElem_mem h)
    omega
  · exact h
theorem hit_none {M : XMap} {a : Int} {S : XSet} (h : ∀ q ∈ M.vers, ¬ a < lastT q.2) : hitS M [] a S = false := by
  have hw : ∀ e, M.written e a = false := fun e => by
    unfold XMap.written
    have : M.vers.any (hitV e a) = false := by
      rw [List.any_eq_false]
      intro q hq
      simp only [hitV, Bool.and_eq_true, decide_eq_true_eq, not_and]
      intro _
      exact h q hq
    rw [this, Bool.and_false]
  unfold hitS
  have : S.l.any (hitX M a) = false := by
    rw [List.any_eq_false]
    intro x _
    simp [hitX, hw]
  rw [this]; rfl
theorem valid_none {M : XMap} {a : Int} {r s : XSet} (h : ∀ q ∈ M.vers, ¬ a < lastT q.2) : validM M [] a r s = 0 := by
  unfold validM
  rw [hit_none h, hit_none h]
  simp
theorem add_ok {S : XSet} {k : Int} (hk : lbaOk k) (hn : (S.l.length : Int) + 1 ≤ S.most) : (S.add [⟨k, 1⟩]).2 = 0 ∧ (S.add [⟨k, 1⟩]).1.most = S.most ∧ (S.add [⟨k, 1⟩]).1.l.length ≤ S.l.length + 1 := by
  unfold lbaOk at hk
  have hy : may ⟨k, 1⟩ = true := by simp [may]; omega
  have hj := joinM_length (S.l ++ [⟨k, 1⟩])
  simp only [List.length_append, List.length_singleton] at hj
  unfold XSet.add
  simp only [List.all_cons, List.all_nil, hy, Bool.and_self, Bool.true_eq_false, if_false, List.length_singleton]
  rw [if_neg (by omega), if_neg (by omega)]
  exact ⟨rfl, rfl, hj⟩
/-- A manager with what was loaded, and one that reads. -/
def LM (last : Int) (X : XMap) (S : XSet) (rds : List Rd) (dat : List (Int × List UInt8)) : Mgr := { Mgr.new 20 last with m := X, book := ⟨16, 1, [(1, last)]⟩, all := [(1, ⟨1, 0, 0, last, ⟨20, 16, dat⟩, ⟨last, S, rds⟩⟩)] }
theorem lm_read {last : Int} {X : XMap} {S : XSet} {rds : List Rd} {k : Int} (hb : X.blocks = 20) (hk : 0 ≤ k ∧ k < 20) (hm : S.most = 64) (hl : S.l.length + 1 ≤ 64) :
    ∃ S' rds', (LM last X S rds []).readE 1 ⟨k, 1⟩ = (LM last X S' rds' [], (X.get k last, 0)) ∧ S'.most = 64 ∧ S'.l.length ≤ S.l.length + 1 := by
  obtain ⟨a1, a2, a3⟩ := add_ok (S := S) (k := k) (by unfold lbaOk; omega) (by omega)
  refine ⟨(S.add [⟨k, 1⟩]).1, rds ++ [seenB X ⟨20, 16, []⟩ last k], ?_, by rw [a2, hm], a3⟩
  have hw : within X ⟨k, 1⟩ = true := by simp [within, hb]; omega
  have hbo : blocksOf ⟨k, 1⟩ = [k] := by simp [blocksOf, List.range_succ]
  have hv : View.read X ⟨20, 16, []⟩ ⟨last, S, rds⟩ ⟨k, 1⟩ = (⟨last, (S.add [⟨k, 1⟩]).1, rds ++ [seenB X ⟨20, 16, []⟩ last k]⟩, (X.get k last, 0)) := by
    unfold View.read
    rw [if_neg (by simp), if_neg (by rw [hw]; simp), a1, if_neg (by simp), hbo]
    simp [seenB, lkp]
  unfold Mgr.readE
  have ho : (LM last X S rds []).opn 1 = some ⟨1, 0, 0, last, ⟨20, 16, []⟩, ⟨last, S, rds⟩⟩ := rfl
  rw [ho]
  show (({ LM last X S rds [] with all := put (LM last X S rds []).all 1 { (⟨1, 0, 0, last, ⟨20, 16, []⟩, ⟨last, S, rds⟩⟩ : Trn) with view := (View.read X ⟨20, 16, []⟩ ⟨last, S, rds⟩ ⟨k, 1⟩).1 } } : Mgr), (View.read X ⟨20, 16, []⟩ ⟨last, S, rds⟩ ⟨k, 1⟩).2) = _
  rw [hv]
  rfl
theorem loads_tail {p N : Nat} {last : Int} {l : List Put} {s : SV} {X : XMap} {R : HP} {w w0 : World} {K : Bool → World → Prop} (hs : putsOn (hp w0) s l) (hX : X.vers = l.map fun p => (p.lba, [⟨last, p.data⟩])) (hb : X.blocks = 20) (hp : (l.map Put.lba).Pairwise (· < ·)) (hr : ∀ x ∈ l, (0 ≤ x.lba ∧ x.lba < 20) ∧ x.data.length = 40)
    (hl : 0 ≤ last ∧ last < 1099511627776) (ok : MgrOk N { Mgr.new 20 last with m := X }) (hN : N ≤ 100) (h : Sat (mgrA (some ⟨p, 0, none⟩) { Mgr.new 20 last with m := X } * (R * whole w0)) w) (hk : ∀ w', Keep w0 w' → K true w') :
    c_txn_Manager_Begin (some ⟨p, 0, none⟩) w fun (x28 : Int × Int) w29 =>
                               (bsplit (!decide ((x28.2 : Int) = 0))
                                (K (false) w29)
                                ((c_txn_Manager_Load (some ⟨p, 0, none⟩) s w29 fun (x30 : Int) w31 =>
                                  (bsplit (!decide ((x30 : Int) = 1))
                                   (K (false) w31)
                                   ((loopR (α := Bool × Int) (false, 0) w31 fun x32 w33 next34 =>
                                     (bsplit (decide ((x32.2 : Int) < ((s.n : Nat) : Int)))
                                      ((0 ≤ (x32.2 : Int) ∧ (x32.2 : Int) < ((s.n : Nat) : Int) ∧
                                        (onP s.a fun p35 =>
                                        (∃ n36 : Int, (w33.cell? (p35.add ((x32.2 : Int).toNat * 2)) = some (.int .i64 n36)) ∧
                                        (c_txn_Manager_Read (some ⟨p, 0, none⟩) x28.1 n36 1 w33 fun (x37 : SV × Int) w38 =>
                                        (bsplit (!decide ((x37.2 : Int) = 0))
                                        (K (false) w38)
                                        ((0 ≤ (x32.2 : Int) ∧ (x32.2 : Int) < ((s.n : Nat) : Int) ∧
                                        (onP s.a fun p39 =>
                                        (∃ s40 : SV, (w38.cell? ((p39.add ((x32.2 : Int).toNat * 2)).add 1) = some (.slice s40.a s40.n s40.c)) ∧
                                        (c_scarpalike_Bytes x37.1 s40 w38 fun (x41 : Bool) w42 =>
                                        (bsplit (!x41)
                                        (K (false) w42)
                                        (next34 (x32.1, (IntKind.i64.wrap (x32.2 + 1))) w42)))))))))))))
                                      ((c_scarpalike_Data 1 w33 fun (x43 : SV) w44 =>
                                        (withW (w44.alloc (.cells #[.int .i64 3, .slice x43.a x43.n x43.c] 33)) fun w45 =>
                                        (c_txn_Manager_Write (some ⟨p, 0, none⟩) x28.1 (⟨(some (⟨w44.heap.size, 0, none⟩ : Addr)), 1, 1⟩) w45 fun (x46 : Int) w47 =>
                                        (bsplit (decide ((x46 : Int) = 0))
                                        ((c_txn_Manager_Commit (some ⟨p, 0, none⟩) x28.1 w47 fun (x48 : Int) w49 =>
                                        (bsplit (decide ((x48 : Int) = 0))
                                        ((c_scarplaw23_awake  w49 fun (x50 : Bool) w51 =>
                                        K (x50) w51))
                                        (K (false) w49))))
                                        (K (false) w47))))))))))))) := by
  have hsn := hs.1
  have hlen : l.length ≤ 20 := by have := rise_length (n := 20) hp fun x hx => by obtain ⟨y, hy, rfl⟩ := List.mem_map.1 hx; exact (hr y hy).1
                                  simpa using this
  refine ok_begin h ok (by omega) fun w29 ok29 h29 => ?_
  have hbg : ({ Mgr.new 20 last with m := X } : Mgr).begin = (LM last X ⟨64, []⟩ [] [], (1, 0)) := by
    rw [begin_room (by simp [Mgr.new]; omega) (by simp [Mgr.new])]
    simp only [Mgr.new, freshT, LM, put, hb]
    rfl
  rw [hbg] at ok29 h29 ⊢
  refine bsplit_iff.2 ⟨fun e => (by simp at e), fun _ => ?_⟩
  have hld : (LM last X ⟨64, []⟩ [] []).load l = (LM last X ⟨64, []⟩ [] [], 1) := by
    unfold Mgr.load
    rw [if_pos (.inl (by simp [LM]))]
  refine ok_load h29 ok29 (by omega) (fun w' hw' => putsOn_le (keep_le (Keep.whole hw'.right)) hs) (by omega) fun w31 ok31 h31 => ?_
  rw [hld] at ok31 h31 ⊢
  refine bsplit_iff.2 ⟨fun e => (by simp at e), fun _ => ?_⟩
  refine loop_i (fun (x : Bool × Int) w' => ∃ (i : Nat) (S : XSet) (rds : List Rd), x.2 = i ∧ i ≤ l.length ∧ S.most = 64 ∧ S.l.length ≤ i ∧ MgrOk (N + 2 + i) (LM last X S rds []) ∧ Sat (mgrA (some ⟨p, 0, none⟩) (LM last X S rds []) * (R * whole w0)) w') (fun x _ => (l.length - x.2).toNat)
    ⟨0, ⟨64, []⟩, [], rfl, by omega, rfl, by simp, ok31, h31⟩ ?_
  rintro ⟨y, x⟩ w33 ⟨i, S, rds, hx, hi, hS1, hS2, ok33, h33⟩
  simp only at hx; subst hx
  dsimp only
  rw [hsn]
  refine bsplit_decide.2 ⟨fun hlt => ?_, fun hge => ?_⟩
  · have hi' : i < l.length := by omega
    have k33 : Keep w0 w33 := Keep.whole h33.right.right
    obtain ⟨ad, d, ha, hc1, _, _⟩ := (putsOn_le (keep_le k33) hs).2 i hi'
    obtain ⟨hrl, hrd⟩ := hr _ (List.getElem_mem hi')
    refine ⟨by omega, by omega, onP_i ha ⟨l[i].lba, hc1, ?_⟩⟩
    obtain ⟨S', rds', hre, b1, b2⟩ := lm_read (last := last) (rds := rds) hb hrl hS1 (by omega)
    refine ok_read (e := ⟨l[i].lba, 1⟩) h33 ok33 (by omega) fun s37 w38 ok38 h38 => ?_
    have hget : X.get l[i].lba last = l[i].data := by
      unfold XMap.get
      rw [hX, vers_map hp (List.getElem_mem hi')]
      simp [valAt, upTo]
    rw [hre] at ok38 h38 ⊢
    rw [hget] at h38
    have k38 : Keep w0 w38 := Keep.whole h38.right.right.right
    obtain ⟨ad', d', ha', _, hc2', hd'⟩ := (putsOn_le (keep_le k38) hs).2 i hi'
    refine bsplit_iff.2 ⟨fun e => (by simp at e), fun _ => ⟨by omega, by omega, onP_i ha' ⟨d', hc2', ?_⟩⟩⟩
    refine bytes_c (byteRow_on h38.left) hd' (by show l[i].data.length ≤ 2 ^ 60; omega) fun w42 k42 => ?_
    refine bsplit_iff.2 ⟨fun e => (by simp at e), fun _ => ?_⟩
    have e1 : IntKind.i64.wrap ((i : Int) + 1) = ((i + 1 : Nat) : Int) := by rw [wrap_of (by omega) (by omega)]; omega
    exact ⟨⟨i + 1, S', rds', e1, by omega, b1, by omega, ok38, (k42.sat h38).right⟩, by rw [e1]; omega⟩
  · refine data_c h33 fun s43 w44 hs43 h44 => ?_
    rw [withW_iff]
    have h45 := h44.alloc (.cells #[.int .i64 3, .slice s43.a s43.n s43.c] 33)
    have hdl : (blockB 40 1).length = 40 := blockB_length _ _
    generalize blockB 40 1 = dd at h45 hdl
    generalize w44.heap.size = bn at h45 ⊢
    refine ok_write (l := [⟨3, dd⟩]) (h45.eq (by ac_rfl : _ = mgrA (some ⟨p, 0, none⟩) (LM last X S rds []) * (pt bn (.cells #[.int .i64 3, .slice s43.a s43.n s43.c] 33) * (ownS 1 s43 (bytesV dd) * (R * whole w0))))) ok33 (fun w' hw' => put1_on hw' rfl) (by simp) fun w47 ok47 h47 => ?_
    have hwr : (LM last X S rds []).write 1 [⟨3, dd⟩] = (LM last X S rds [(3, dd)], 0) := by
      unfold Mgr.write
      have ho : (LM last X S rds []).opn 1 = some ⟨1, 0, 0, last, ⟨20, 16, []⟩, ⟨last, S, rds⟩⟩ := rfl
      rw [ho]
      have hw : Buf.write ⟨20, 16, []⟩ [⟨3, dd⟩] = (⟨20, 16, [(3, dd)]⟩, 0) := by simp [Buf.write, outOf, badLen, hdl, twiceM, newOnes, putsIn, put, lkp]
      show (({ LM last X S rds [] with all := put (LM last X S rds []).all 1 { (⟨1, 0, 0, last, ⟨20, 16, []⟩, ⟨last, S, rds⟩⟩ : Trn) with buf := (Buf.write ⟨20, 16, []⟩ [⟨3, dd⟩]).1 } } : Mgr), (Buf.write ⟨20, 16, []⟩ [⟨3, dd⟩]).2) = _
      rw [hw]; rfl
    rw [hwr] at ok47 h47 ⊢
    refine bsplit_iff.2 ⟨fun _ => ?_, fun e => (by simp at e)⟩
    have hcm : ((LM last X S rds [(3, dd)]).commit 1).2 = 0 := by
      have ho : (LM last X S rds [(3, dd)]).opn 1 = some ⟨1, 0, 0, last, ⟨20, 16, [(3, dd)]⟩, ⟨last, S, rds⟩⟩ := rfl
      have hm : (LM last X S rds [(3, dd)]).may ⟨1, 0, 0, last, ⟨20, 16, [(3, dd)]⟩, ⟨last, S, rds⟩⟩ = 0 := by
        have hw : (LM last X S rds [(3, dd)]).waiting = [] := rfl
        have hv : ∀ r s, validM X [] last r s = 0 := fun r s => valid_none fun q hq => by
          rw [hX] at hq
          obtain ⟨x, _, rfl⟩ := List.mem_map.1 hq
          show ¬ last < last
          omega
        unfold Mgr.may
        rw [if_neg (by simp [LM, Mgr.new]), hw]
        show (if validM X [] last _ _ ≠ 0 then validM X [] last _ _ else if (1099511627776 : Int) ≤ last then 11 else 0) = 0
        rw [hv, if_neg (by simp), if_neg (by omega)]
      unfold Mgr.commit
      rw [ho]
      simp only []
      rw [if_neg (by simp), hm]
      rfl
    refine ok_commit h47 ok47 (by omega) fun w49 ok49 h49 => ?_
    rw [hcm]
    refine bsplit_iff.2 ⟨fun _ => ?_, fun e => (by simp at e)⟩
    exact awake_c fun w51 k51 => hk _ ((Keep.whole h49.right.right.right.right).trans k51)
theorem loads_c {last : Int} {s : SV} {l : List Put} {e : Ext} {w : World} {K : Bool → World → Prop} (hs : putsOn (hp w) s l) (hk : ∀ w', Keep w w' → K true w') : c_scarplaw23_TxnLoads last s e.first e.len w K := by
  refine scarplaw23_TxnLoads_go ?_
  unfold f_scarplaw23_TxnLoads
  have hsn := hs.1
  rw [withW_iff]
  have k1 := Keep.alloc w (.cells #[.int .i64 e.first, .int .i64 e.len] 56)
  generalize w.alloc (.cells #[.int .i64 e.first, .int .i64 e.len] 56) = w1 at k1 ⊢
  refine puts_size (putsOn_le (keep_le k1) hs) (by omega) fun r w3 k3 r0 r1 hsz => ?_
  have k13 := k1.trans k3
  refine bsplit_decide.2 ⟨fun _ => awake_c fun w' k' => hk _ (k13.trans k'), fun h1 => bsplit_decide.2 ⟨fun _ => awake_c fun w' k' => hk _ (k13.trans k'), fun h2 => bsplit_decide.2 ⟨fun _ => awake_c fun w' k' => hk _ (k13.trans k'), fun h3 => ?_⟩⟩⟩
  obtain ⟨hlen, _⟩ := hsz (by omega)
  refine mgr_new (n := 20) (last := last) (sat_whole w3) (by omega) (by omega) fun p w11 h11 => ?_
  refine bsplit_iff.2 ⟨fun e => (by cases e), fun _ => bsplit_iff.2 ⟨fun e => (by cases e), fun _ => ?_⟩⟩
  have h11' : Sat (mgrA (some ⟨p, 0, none⟩) (Mgr.new 20 last) * (1 * whole w)) w11 := (Sat.frame h11 (k13.sat (sat_whole w))).eq (by rw [one_mul'])
  have hs' : ∀ w', Sat (1 * whole w) w' → putsOn (hp w') s l := fun w' hw' => putsOn_le (keep_le (Keep.whole hw'.right)) hs
  refine ok_load h11' (mgrOk_new (by omega) (by omega)) (by omega) hs' (by omega) fun w13 ok13 h13 => ?_
  by_cases hg : ((Mgr.new 20 last).load l).2 = 0
  · rw [hg]
    refine bsplit_iff.2 ⟨fun e => (by simp at e), fun _ => ?_⟩
    have key : ∃ X : XMap, ((Mgr.new 20 last).load l).1 = { Mgr.new 20 last with m := X } ∧ X.blocks = 20 ∧ X.vers = (l.map fun p => (p.lba, [⟨last, p.data⟩])) ∧ (l.map Put.lba).Pairwise (· < ·) ∧ (∀ x ∈ l, (0 ≤ x.lba ∧ x.lba < 20) ∧ x.data.length = 40) ∧ (0 < l.length → 0 < last ∧ X.last = last) := by
      unfold Mgr.load at hg ⊢
      split at hg
      · simp at hg
      · rename_i g1
        rw [if_neg g1]
        split at hg
        · rename_i g2
          have : l = [] := List.length_eq_zero_iff.1 g2
          subst this
          exact ⟨(Mgr.new 20 last).m, rfl, rfl, rfl, by simp, by simp, by simp⟩
        · rename_i g2
          rw [if_neg g2]
          obtain ⟨a1, a2, a3, a4⟩ := apply_fresh (n := 20) (t := last) (l := l) hg
          refine ⟨(XMap.apply ⟨20, [], 0⟩ ⟨last, l⟩).1, rfl, ?_, ?_, a3, a4, fun _ => ⟨a2, ?_⟩⟩ <;> rw [a1]
    obtain ⟨X, x1, x2, x3, x4, x5, x6⟩ := key
    rw [x1] at ok13 h13
    have hdump : ({ Mgr.new 20 last with m := X } : Mgr).m.dump = l := by
      show X.dump = l
      obtain ⟨xb, xv, xl⟩ := X
      simp only at x3; subst x3
      exact dump_map x4
    refine ok_dump h13 ok13 (by omega) fun s20 w21 h21 => ?_
    rw [hdump] at h21
    have k21 := Keep.whole h21.right
    have h21' := k21.sat h13
    refine sameputs_c (putsA_on h21.left) (hs' _ h21'.right) (by omega) fun b w23 k23 hb => ?_
    have : b = true := hb.2 rfl
    subst this
    refine bsplit_iff.2 ⟨fun e => (by simp at e), fun _ => ?_⟩
    have h23 := k23.sat h21'
    refine mgr_last h23 ?_
    refine bsplit_iff.2 ⟨fun e => (by simp [Mgr.new] at e), fun _ => ?_⟩
    refine bsplit_decide.2 ⟨fun hpos => ?_, fun hpos => ?_⟩
    · obtain ⟨y1, y2⟩ := x6 (by omega)
      have hld : ∃ c, ({ Mgr.new 20 last with m := X } : Mgr).load l = ({ Mgr.new 20 last with m := X }, c) ∧ c ≠ 0 := by
        refine ⟨11, ?_, by omega⟩
        unfold Mgr.load
        rw [if_neg (by simp [Mgr.new]; omega), if_neg (by omega)]
        have : X.apply ⟨last, l⟩ = (X, 11) := by unfold XMap.apply; rw [if_pos (.inl (by rw [y2]; exact Int.le_refl _))]
        show (({ Mgr.new 20 last with m := (X.apply ⟨last, l⟩).1 } : Mgr), (X.apply ⟨last, l⟩).2) = _
        rw [this]
      obtain ⟨c, c1, c2⟩ := hld
      refine ok_load h23 ok13 (by omega) hs' (by omega) fun w27 ok27 h27 => ?_
      rw [c1] at ok27 h27 ⊢
      refine bsplit_decide.2 ⟨fun e => absurd e c2, fun _ => ?_⟩
      exact loads_tail hs x3 x2 x4 x5 (by omega) ok27 (by omega) h27 hk
    · exact loads_tail hs x3 x2 x4 x5 (by omega) ok13 (by omega) h23 hk
  · refine bsplit_iff.2 ⟨fun _ => ?_, fun e => absurd (by simpa using e) hg⟩
    have hsame : ((Mgr.new 20 last).load l).1 = Mgr.new 20 last := by
      unfold Mgr.load at hg ⊢
      split at hg
      · rename_i g1; rw [if_pos g1]
      · rename_i g1
        split at hg
        · simp at hg
        · rename_i g2
          rw [if_neg g1, if_neg g2]
          have := apply_fail (X := (Mgr.new 20 last).m) (t := ⟨(Mgr.new 20 last).base, l⟩) hg
          rw [this]
    rw [hsame] at ok13 h13
    refine ok_dump h13 ok13 (by omega) fun s14 w15 h15 => ?_
    have hn : s14.n = 0 := by rw [pairsA_n h15, dump_length]; rfl
    rw [hn]
    refine bsplit_iff.2 ⟨fun _ => ?_, fun e => (by simp at e)⟩
    have h15' := (Keep.whole h15.right).sat h13
    refine mgr_last h15' ?_
    refine bsplit_iff.2 ⟨fun _ => ?_, fun e => (by simp [Mgr.new] at e)⟩
    exact awake_c fun w' k' => hk _ ((Keep.whole h15'.right.right).trans k')
theorem loads_row (w : World) (a0 : Int) (s : SV) (l : List Put) (hl : PutsArg w [.slice s.a s.n s.c] l) (e : Ext) (_he : (-9223372036854775808 ≤ e.first ∧ e.first ≤ 9223372036854775807) ∧ (-9223372036854775808 ≤ e.len ∧ e.len ≤ 9223372036854775807)) : Calls Tryz.prog 10 #[.int .i64 a0, .slice s.a s.n s.c, .agg #[.int .i64 e.first, .int .i64 e.len]] w fun r w' => r = .returned (.bool true) ∧ RowKit.Below w.heap.size w w' := by
  obtain ⟨s', h1, _, _, h2, _⟩ := hl
  have : s' = s := by cases s'; cases s; simp_all
  subst this
  exact row_of (loads_c h2 fun _ k => ⟨rfl, k⟩)
end Go.Proofs.YtbolgpjcmchfoaaGreat
