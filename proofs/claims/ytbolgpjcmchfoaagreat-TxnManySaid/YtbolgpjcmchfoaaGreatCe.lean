/- Contracts of the write buffer: what it tells. -/
import Derived.Test.YtbolgpjcmchfoaaGreatCd
namespace Go.Proofs.YtbolgpjcmchfoaaGreat
open Go Go.Vc Go.Sl Go.Mo
theorem Sat.frame {A R : HP} {w w' : World} (h : Sat (A * whole w) w') (h0 : Sat R w) : Sat (A * R) w' := by
  obtain ⟨g, hg, h1, h2, hd, hu, ha, hw⟩ := h
  obtain ⟨g0, hg0, hr⟩ := h0
  have hle : ∀ b o, g0 b = some o → h2 b = some o := fun b o hb => by rw [hw b]; exact hg0 b o hb
  refine ⟨fun b => (h1 b).or (g0 b), fun b o hb => ?_, h1, g0, fun b => ?_, fun _ => rfl, ha, hr⟩
  · refine hg b o ?_
    rw [hu b]
    cases e : h1 b with
    | some x => simp only [e, Option.some_or] at hb ⊢; exact hb
    | none => simp only [e, Option.none_or] at hb ⊢; exact hle b o hb
  · rcases hd b with e | e
    · exact .inl e
    · refine .inr ?_
      cases e' : g0 b with
      | none => rfl
      | some o => rw [hle b o e'] at e; cases e
def BufOk (B : Buf) : Prop := (∀ p ∈ B.data, i64ok p.1 ∧ p.2.length ≤ 2 ^ 40) ∧ B.data.length ≤ 2 ^ 30
theorem buf_ptr {p : Option Addr} {B : Buf} {R : HP} {w : World} (h : Sat (bufA p B * R) w) : ∃ b, p = some ⟨b, 0, none⟩ := by
  obtain ⟨r, h1⟩ := bufA_open h
  obtain ⟨b, t, rfl, _⟩ := objA_open h1
  exact ⟨b, rfl⟩
theorem slmapA_map {β : Type} {A : SV → β → HP} {r : Nat} {l : List (Int × β)} {R : HP} {w : World} (h : Sat (slmapA A r l * R) w) : ∃ m, Sat (mapA r m * 1) w ∧ m.map Prod.fst = l.map Prod.fst := by
  obtain ⟨xs, rfl, h1⟩ := slmapA_open h
  exact ⟨_, h1.left.eq (mul_one' _).symm, by rw [keys_on2, keys_on2]⟩
theorem lkp_key {α : Type} {l : List (Int × α)} {k : Int} (h : k ∈ l.map Prod.fst) : ∃ v, lkp l k = some v := by
  cases e : lkp l k with
  | some v => exact ⟨v, rfl⟩
  | none => exact absurd h (lkp_none.1 e)
theorem buf_puts {p : Option Addr} {B : Buf} {R : HP} {w : World} {K : SV → World → Prop} (h : Sat (bufA p B * R) w) (ok : BufOk B) (hk : ∀ s w', Sat (putsA s B.puts * whole w) w' → K s w') : c_wbuf_Buf_Puts p w K := by
  obtain ⟨b, rfl⟩ := buf_ptr h
  obtain ⟨r, h1⟩ := bufA_open h
  refine wbuf_Buf_Puts_go ?_
  refine bsplit_iff.2 ⟨fun e => (by cases e), fun _ => ?_⟩
  rw [onP_some, add_mk]
  refine ⟨some r, (objA_cells h1).1 2, ?_⟩
  obtain ⟨m, hm, hkeys⟩ := slmapA_map h1.right
  have hlen : m.length = B.data.length := by have := congrArg List.length hkeys; simpa using this
  refine sorted_B r m 1 w _ hm (fun q hq => ?_) (by rw [hlen]; have := ok.2; omega) fun s w6 hn k6 hs => ?_
  · have : q.1 ∈ B.data.map Prod.fst := hkeys ▸ List.mem_map_of_mem (f := Prod.fst) hq
    obtain ⟨x, hx, e⟩ := List.mem_map.1 this
    exact e ▸ (ok.1 x hx).1
  rw [hkeys] at hs
  have h6 := hs _ (sat_whole w)
  have hsn : s.n = B.data.length := by rw [hn, hlen]
  have hpl : B.puts.length = B.data.length := by simp [Buf.puts, sortI_length]
  have hb := ok.2
  have hkl : (sortI (B.data.map Prod.fst)).length = B.data.length := by simp [sortI_length]
  have hmem : ∀ k ∈ sortI (B.data.map Prod.fst), k ∈ B.data.map Prod.fst := fun k hk => (sortI_perm _).mem_iff.1 hk
  have hput : B.puts = (sortI (B.data.map Prod.fst)).map fun k => ⟨k, (lkp B.data k).getD []⟩ := rfl
  generalize sortI (B.data.map Prod.fst) = ks at *
  generalize B.puts = ps at *
  refine loop_i (fun (x : SV × Int) w' => ∃ i : Nat, x.2 = i ∧ i ≤ ps.length ∧ Sat (putsA x.1 (ps.take i) * (ownS 1 s (ks.map (Value.int .i64)) * whole w)) w') (fun x _ => ps.length - x.2.toNat) ⟨0, rfl, by omega, pairsA_nil h6 rfl rfl⟩ ?_
  rintro ⟨out, x⟩ w8 ⟨i, hx, hi, hw⟩
  simp only at hx; subst hx
  refine bsplit_decide.2 ⟨fun hlt => ?_, fun hge => ?_⟩
  · have hlt' : i < B.data.length := by simp at hlt; omega
    have hki : i < ks.length := by omega
    have hkm : i < (ks.map (Value.int .i64)).length := by simpa using hki
    have hwo : Sat (ownS 1 s (ks.map (Value.int .i64)) * (putsA out (ps.take i) * whole w)) w8 := hw.eq (by ac_rfl)
    obtain ⟨bk, hbk, hck⟩ := ownS_cell hwo hkm
    have kw : Keep w w8 := Keep.whole hw.right.right
    have h8 := kw.sat h1
    have hck' : w8.cell? ⟨bk, i, none⟩ = some (.int .i64 ks[i]) := by rw [hck i hkm]; simp
    obtain ⟨v, hv⟩ := lkp_key (hmem _ (List.getElem_mem hki))
    have htake : ps.take (i + 1) = ps.take i ++ [⟨ks[i], v⟩] := by
      rw [List.take_succ_eq_append_getElem (by omega)]
      subst hput
      simp [hv]
    refine ⟨by omega, hlt, onP_i hbk ⟨ks[i], by simpa using hck', ?_⟩⟩
    rw [onP_some, add_mk]
    refine ⟨some r, (objA_cells h8).1 2, rfl, ?_⟩
    rw [onM_some]
    obtain ⟨es, hcl, _, hlk⟩ := slmapA_get h8.right
    rcases hlk ks[i] with ⟨q1, _⟩ | ⟨d, v', q1, q2, q3⟩
    · rw [q1] at hv; cases hv
    obtain rfl : v' = v := by rw [q1] at hv; cases hv; rfl
    have hvl : v'.length ≤ 2 ^ 40 := (ok.1 _ (lkp_mem q1)).2
    refine ⟨es, hcl, d, by rw [q2]; rfl, ?_⟩
    refine clone_bytes hw (byteRow_on q3) hvl fun s' w9 hs' hw9 => ?_
    rw [withW_iff]
    have hwa := hw9.alloc (.cells #[.int .i64 ks[i], .slice s'.a s'.n s'.c] 33)
    have hc0 := hwa.cell 0
    have hc1 := hwa.cell 1
    have hwb := hwa.right
    generalize w9.heap.size = bn at hc0 hc1 ⊢
    have hpi : i < ps.length := by omega
    refine pairsA_push (x := (⟨ks[i], v'⟩ : Put)) (d := s') (num := Put.lba) (A := fun s x => byteRow s x.data) (l := ps.take i) (R := ownS 1 s (ks.map (Value.int .i64)) * whole w) (hwb.eq ?_) ⟨hc0, hc1⟩ (by simp; omega) (by omega) rfl fun s2 w10 hw10 => ?_
    · show byteRow s' v' * (putsA out (ps.take i) * (ownS 1 s (ks.map (Value.int .i64)) * whole w)) = putsA out (ps.take i) * (byteRow s' v' * (ownS 1 s (ks.map (Value.int .i64)) * whole w))
      ac_rfl
    · have e1 : IntKind.i64.wrap ((i : Int) + 1) = ((i + 1 : Nat) : Int) := by rw [wrap_of (by omega) (by omega)]; omega
      refine ⟨⟨i + 1, e1, by omega, ?_⟩, by simp only [e1]; omega⟩
      rw [htake]
      exact hw10
  · obtain rfl : i = ps.length := by simp at hge; omega
    rw [List.take_length] at hw
    have : Sat (ownS 1 s (ks.map (Value.int .i64)) * (putsA out ps * whole w)) w8 := hw.eq (by ac_rfl)
    exact hk _ _ this.right
theorem buf_len {p : Option Addr} {B : Buf} {R : HP} {w : World} {K : Int → World → Prop} (h : Sat (bufA p B * R) w) (ok : BufOk B) (hk : ∀ w', Keep w w' → K (B.data.length : Nat) w') : c_wbuf_Buf_Len p w K := by
  refine wbuf_Buf_Len_go (buf_puts h ok fun s w' hw => ?_)
  have : s.n = B.data.length := by rw [pairsA_n hw]; simp [Buf.puts, sortI_length]
  rw [this]
  exact hk _ (Keep.whole hw.right)
end Go.Proofs.YtbolgpjcmchfoaaGreat
