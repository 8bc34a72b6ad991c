/- The reference's buffers. -/
import Derived.Test.YtbolgpjcmchfoaaGreatUd
import Derived.Test.YtbolgpjcmchfoaaGreatUe
namespace Go.Proofs.YtbolgpjcmchfoaaGreat
open Go Go.Vc Go.Sl Go.Mo
theorem putC_snoc (ys : List (SV × Put)) (d : SV) (p : Put) : ys.flatMap putC ++ [.int .i64 p.lba, .slice d.a d.n d.c] = (ys ++ [(d, p)]).flatMap putC := by simp [putC, slv]
theorem putC_len (ys : List (SV × Put)) : (ys.flatMap putC).length = ys.length * 2 := flat_len (C := putC) (fun _ => rfl) ys
theorem kputs_freeze {F : Heap → Prop} {s : SV} {ys : List (SV × Put)} {r : List HP} {w : World} (hF : Mono F) (h : St (ownS 2 s (ys.flatMap putC) :: pool F :: r) w) (hy : ∀ y ∈ ys, Known F (y.1, y.2.data)) :
    ∃ F' : Heap → Prop, Mono F' ∧ (∀ h, F' h → F h) ∧ KPuts F' s (ys.map Prod.snd) ∧ St (pool F' :: r) w := by
  obtain ⟨F', a, b, c, d⟩ := freeze hF h
  exact ⟨F', a, b, ⟨ys, rfl, c, fun y hy' g hg => hy y hy' g (b g hg)⟩, d⟩
theorem rbuf_get {b : Nat} {bl : SV} {ps : List Put} {k : Int} {F : Heap → Prop} {w : World} {K : SV × Bool → World → Prop} (hc : w.cell? ⟨b, 2, none⟩ = some (slv bl)) (hb : KPuts F bl ps) (hh : F (hp w)) (hn : ps.length ≤ 2 ^ 60)
    (no : (∀ p ∈ ps, p.lba ≠ k) → K (⟨none, 0, 0⟩, false) w) (yes : ∀ d p, p ∈ ps → p.lba = k → Known F (d, p.data) → K (d, true) w) : c_scarpref11_Buf_Get (some ⟨b, 0, none⟩) k w K := by
  refine scarpref11_Buf_Get_go ?_
  unfold f_scarpref11_Buf_Get
  have hsn := hb.n
  refine loop_i (fun (x : SV × Bool × Int) w' => ∃ i : Nat, x.2.2 = (i : Int) ∧ i ≤ ps.length ∧ w' = w ∧ ∀ j (hj : j < ps.length), j < i → ps[j].lba ≠ k) (fun x _ => ps.length - x.2.2.toNat) ⟨0, rfl, by omega, rfl, fun j _ h => by omega⟩ ?_
  rintro ⟨y, z, x⟩ w' ⟨i, hx, hi, rfl, hall⟩
  simp only at hx; subst hx
  dsimp only
  have hc' : w'.cell? ((⟨b, 0, none⟩ : Addr).add 2) = some (.slice bl.a bl.n bl.c) := by rw [add_mk]; exact hc
  rw [onP_some]
  refine ⟨bl, hc', bsplit_decide.2 ⟨fun hlt => ?_, fun hge => ?_⟩⟩
  · have hlt' : i < ps.length := by simp at hlt; omega
    obtain ⟨ad, d, ha, c1, c2, c3⟩ := hb.get hh hlt'
    rw [onP_some]
    refine ⟨bl, hc', by omega, hlt, onP_i ha ⟨_, c1, bsplit_decide.2 ⟨fun q => ?_, fun q => ?_⟩⟩⟩
    · rw [onP_some]
      exact ⟨bl, hc', by omega, hlt, onP_i ha ⟨d, c2, yes d _ (List.getElem_mem hlt') q c3⟩⟩
    · rw [withI_iff]
      have e1 := inc_of hlt' (by omega)
      refine ⟨⟨i + 1, e1, by omega, rfl, fun j hj hji => ?_⟩, by simp only [e1]; omega⟩
      rcases Nat.lt_succ_iff_lt_or_eq.1 hji with h' | h'
      · exact hall j hj h'
      · subst h'; exact q
  · refine no fun p hp => ?_
    obtain ⟨j, hj, rfl⟩ := List.getElem_of_mem hp
    exact hall j hj (by simp at hge; omega)
theorem insP_take {ps : List Put} {x : Put} : ∀ j, (∀ p ∈ ps.take j, p.lba < x.lba) → insP ps x = ps.take j ++ insP (ps.drop j) x := by
  induction ps with
  | nil => intro j _; simp
  | cons p r ih =>
    intro j h
    cases j with
    | zero => rfl
    | succ j =>
      simp only [List.take_succ_cons, List.drop_succ_cons, List.cons_append] at h ⊢
      have h1 := h p (by simp)
      conv => lhs; unfold insP
      rw [if_neg (by omega)]
      rw [ih j fun q hq => h q (by simp [hq])]
/-- One put goes in. -/
theorem rbuf_ins {S : World → Prop} {b : Nat} {u0 u1 : Value} {cs : List Value} {bl d : SV} {ps : List Put} {x : Put} {F : Heap → Prop} {r : List HP} {w0 w : World} {nx : Int → World → Prop} {n : Int} (hF : Mono F) (h : St (pool F :: objA (some ⟨w0.heap.size, 0, none⟩) [u0, u1] :: r) w) (hS : S w) (i : Nat) (hi : r[i]? = some (objA (some ⟨b, 0, none⟩) cs))
    (hcs : cs[2]? = some (slv bl)) (hb : KPuts F bl ps) (hs : ps.Pairwise fun x y => x.lba < y.lba) (hn : ps.length ≤ 2 ^ 30) (hx : Known F (d, x.data))
    (hk : ∀ F' bl' w', Mono F' → (∀ h, F' h → F h) → KPuts F' bl' (insP ps x) → St (pool F' :: r.set i (objA (some ⟨b, 0, none⟩) (cs.set 2 (slv bl')))) w' → nx (IntKind.i64.wrap (n + 1)) w') : f_scarpref11_Buf_Write_p2 S w w0 x.lba d (some ⟨b, 0, none⟩) nx n := by
  unfold f_scarpref11_Buf_Write_p2
  refine ⟨hS, st_s2 h 1 rfl fun w1 h1 => ?_⟩
  have h1' : St (ownS 2 ⟨none, 0, 0⟩ [] :: pool F :: objA (some ⟨w0.heap.size, 0, none⟩) [.int .i64 x.lba, slv d] :: r) w1 := st_nilF 2 h1
  clear h1
  have hbn := hb.n
  -- the end: the row is kept
  have fin : ∀ (out : SV) (ys : List (SV × Put)) (w' : World), St (ownS 2 out (ys.flatMap putC) :: pool F :: objA (some ⟨w0.heap.size, 0, none⟩) [.int .i64 x.lba, slv d] :: r) w' → (∀ y ∈ ys, Known F (y.1, y.2.data)) → ys.map Prod.snd = insP ps x →
      onP (some ⟨b, 0, none⟩) fun p121 => (((∃ u, w'.cell? (p121.add 2) = some u) ∧ w'.frozen? (p121.add 2) = false)) ∧ (true = true) ∧ (withW (w'.setCell (p121.add 2) (.slice out.a out.n out.c)) fun w122 => nx (IntKind.i64.wrap (n + 1)) w122) := fun out ys w' h' hy he => by
    rw [onP_some]
    refine st_s1 h' (i + 3) (by simpa using hi) (by have := lt_of_get hcs; omega) fun w2 h2 => ?_
    have h3 : St (ownS 2 out (ys.flatMap putC) :: pool F :: objA (some ⟨w0.heap.size, 0, none⟩) [.int .i64 x.lba, slv d] :: r.set i (objA (some ⟨b, 0, none⟩) (cs.set 2 (slv out)))) w2 := h2
    obtain ⟨F', f1, f2, f3, f4⟩ := kputs_freeze hF h3 hy
    refine hk F' out w2 f1 f2 (he ▸ f3) (f4.cut 1 (by simp))
  refine loop_i (fun (y : SV × Bool × Int) w' => ∃ j : Nat, y.2.2 = (j : Int) ∧ j ≤ ps.length ∧ ∃ ys : List (SV × Put), St (ownS 2 y.1 (ys.flatMap putC) :: pool F :: objA (some ⟨w0.heap.size, 0, none⟩) [.int .i64 x.lba, slv d] :: r) w' ∧ (∀ y ∈ ys, Known F (y.1, y.2.data)) ∧ ys.length ≤ j + 1 ∧
    (y.2.1 = false → ys.map Prod.snd = ps.take j ∧ ∀ p ∈ ps.take j, p.lba < x.lba) ∧ (y.2.1 = true → ys.map Prod.snd ++ ps.drop j = insP ps x ∧ ∀ p ∈ ps.drop j, x.lba < p.lba)) (fun y _ => ps.length - y.2.2.toNat)
    ⟨0, rfl, by omega, [], h1', fun _ h => by simp at h, by simp, fun _ => ⟨rfl, fun _ h => by simp at h⟩, fun e => by cases e⟩ ?_
  rintro ⟨out, dn, y⟩ w' ⟨j, hy, hj, ys, hst, hkn, hyl, hnd, hd⟩
  simp only at hy hst hnd hd; subst hy
  dsimp only
  have hF' := st_pool hF hst 1 rfl
  have hol := st_len hst 0 rfl
  rw [putC_len] at hol
  have cb : ∀ {w' : World} {l : List HP}, St (l ++ r) w' → w'.cell? ((⟨b, 0, none⟩ : Addr).add 2) = some (.slice bl.a bl.n bl.c) := fun {w' l} h => by
    refine st_c1 h (l.length + i) (by rw [List.getElem?_append_right (by omega)]; simpa using hi) hcs
  have cb0 := cb (l := [_, _, _]) hst
  rw [onP_some]
  refine ⟨bl, cb0, bsplit_decide.2 ⟨fun hlt => ?_, fun hge => ?_⟩⟩
  · have hlt' : j < ps.length := by simp at hlt; omega
    obtain ⟨ad, q, ha, c1, c2, c3⟩ := hb.get hF' hlt'
    have hdr := List.drop_eq_getElem_cons hlt'
    have htk := List.take_succ_eq_append_getElem hlt'
    have e1 := inc_of hlt' (by omega)
    have hrest : ∀ p ∈ ps.drop (j + 1), ps[j].lba < p.lba := by
      have := hs.sublist (List.drop_sublist j ps)
      rw [hdr] at this
      exact (List.pairwise_cons.1 this).1
    have hst2 := hst.drew
    rw [withW_iff]
    have kd := Keep.drew w'
    generalize w'.drew = w2 at hst2 kd ⊢
    have p3 : ps[j].lba ≠ x.lba → ∀ (w3 : World) (out3 : SV) (zs : List (SV × Put)) (K3 : SV → World → Prop), St (ownS 2 out3 (zs.flatMap putC) :: pool F :: objA (some ⟨w0.heap.size, 0, none⟩) [.int .i64 x.lba, slv d] :: r) w3 → zs.length ≤ j + 1 →
        (∀ s' w4 d', Known F (d', ps[j].data) → St (ownS 2 s' ((zs ++ [(d', ps[j])]).flatMap putC) :: pool F :: objA (some ⟨w0.heap.size, 0, none⟩) [.int .i64 x.lba, slv d] :: r) w4 → K3 s' w4) →
        onP (some ⟨b, 0, none⟩) fun p91 => ∃ s92 : SV, w3.cell? (p91.add 2) = some (.slice s92.a s92.n s92.c) ∧ (0 ≤ ((j : Int) : Int) ∧ ((j : Int) : Int) < ((s92.n : Nat) : Int) ∧ (onP s92.a fun p93 => (∃ g94 : Int × SV, (w3.cell? (p93.add ((j : Int).toNat * 2)) = some (.int .i64 g94.1) ∧ w3.cell? ((p93.add ((j : Int).toNat * 2)).add 1) = some (.slice g94.2.a g94.2.n g94.2.c)) ∧
          (withW (w3.alloc (.cells #[.int .i64 g94.1, .slice g94.2.a g94.2.n g94.2.c] 33)) fun w95 => (appendR out3 (⟨(some (⟨w3.heap.size, 0, none⟩ : Addr)), 1, 1⟩) 2 32 [.int .i64 0, .slice none 0 0] 33 w95 fun (s96 : SV) w97 => K3 s96 w97))))) := by
      intro _ w3 out3 zs K3 h3 hzl hK
      obtain ⟨ad3, q3, ha3, d1, d2, d3⟩ := hb.get (st_pool hF h3 1 rfl) hlt'
      have hzl' := st_len h3 0 rfl
      rw [putC_len] at hzl'
      rw [onP_some]
      refine ⟨bl, cb (l := [_, _, _]) h3, by omega, by omega, onP_i ha3 ⟨(ps[j].lba, q3), ⟨d1, d2⟩, st_newF h3 fun w4 h4 => st_push h4 1 rfl 0 rfl rfl rfl (by omega) (by omega) rfl fun s5 w5 _ h5 => ?_⟩⟩
      refine hK s5 w5 q3 d3 ?_
      have := h5.cut 0 (by simp)
      simp only [List.set_cons_succ, List.set_cons_zero, List.eraseIdx_cons_zero] at this
      rw [putC_snoc] at this
      exact this
    have nxt : ∀ (s5 : SV) (w5 : World) (dn5 : Bool) (zs : List (SV × Put)), St (ownS 2 s5 (zs.flatMap putC) :: pool F :: objA (some ⟨w0.heap.size, 0, none⟩) [.int .i64 x.lba, slv d] :: r) w5 → (∀ y ∈ zs, Known F (y.1, y.2.data)) → zs.length ≤ j + 2 →
        (dn5 = false → zs.map Prod.snd = ps.take (j + 1) ∧ ∀ p ∈ ps.take (j + 1), p.lba < x.lba) → (dn5 = true → zs.map Prod.snd ++ ps.drop (j + 1) = insP ps x ∧ ∀ p ∈ ps.drop (j + 1), x.lba < p.lba) →
        (∃ j' : Nat, IntKind.i64.wrap ((j : Int) + 1) = (j' : Int) ∧ j' ≤ ps.length ∧ ∃ ys : List (SV × Put), St (ownS 2 s5 (ys.flatMap putC) :: pool F :: objA (some ⟨w0.heap.size, 0, none⟩) [.int .i64 x.lba, slv d] :: r) w5 ∧ (∀ y ∈ ys, Known F (y.1, y.2.data)) ∧ ys.length ≤ j' + 1 ∧
          (dn5 = false → ys.map Prod.snd = ps.take j' ∧ ∀ p ∈ ps.take j', p.lba < x.lba) ∧ (dn5 = true → ys.map Prod.snd ++ ps.drop j' = insP ps x ∧ ∀ p ∈ ps.drop j', x.lba < p.lba)) ∧ ps.length - (IntKind.i64.wrap ((j : Int) + 1)).toNat < ps.length - (j : Int).toNat :=
      fun s5 w5 dn5 zs a1 a2 a3 a4 a5 => ⟨⟨j + 1, e1, by omega, zs, a1, a2, a3, a4, a5⟩, by simp only [e1]; omega⟩
    have hin : ps[j] ∈ ps.drop j := by rw [hdr]; exact List.mem_cons_self
    have part3 : (dn = true ∨ dn = false ∧ ps[j].lba < x.lba) → f_scarpref11_Buf_Write_p3 w2 (some ⟨b, 0, none⟩) (out, dn, (j : Int)) w0 (fun y w' => (∃ j : Nat, y.2.2 = (j : Int) ∧ j ≤ ps.length ∧ ∃ ys : List (SV × Put), St (ownS 2 y.1 (ys.flatMap putC) :: pool F :: objA (some ⟨w0.heap.size, 0, none⟩) [.int .i64 x.lba, slv d] :: r) w' ∧ (∀ y ∈ ys, Known F (y.1, y.2.data)) ∧ ys.length ≤ j + 1 ∧
        (y.2.1 = false → ys.map Prod.snd = ps.take j ∧ ∀ p ∈ ps.take j, p.lba < x.lba) ∧ (y.2.1 = true → ys.map Prod.snd ++ ps.drop j = insP ps x ∧ ∀ p ∈ ps.drop j, x.lba < p.lba)) ∧ ps.length - y.2.2.toNat < ps.length - (j : Int).toNat) := fun hcase => by
      unfold f_scarpref11_Buf_Write_p3
      dsimp only
      refine st_drew hst2 fun w85 h85 => ?_
      obtain ⟨ad3, q3, ha3, d1, d2, d3⟩ := hb.get (st_pool hF h85 1 rfl) hlt'
      have hne : ps[j].lba ≠ x.lba := by
        rcases hcase with q | ⟨_, q⟩
        · have := (hd q).2 _ hin; omega
        · omega
      rw [onP_some]
      refine ⟨bl, cb (l := [_, _, _]) h85, by omega, by simpa using hlt, onP_i ha3 ⟨_, d1, x.lba, st_c0 h85 2 rfl rfl, bsplit_iff.2 ⟨fun _ => ?_, fun q => ?_⟩⟩⟩
      · refine p3 hne w85 out ys _ h85 hyl fun s' w4 d' hd' h4 => ?_
        rw [withI_iff]
        have hlen : ys.length ≤ j + 1 := hyl
        refine nxt s' w4 dn (ys ++ [(d', ps[j])]) h4 (fun y hy => ?_) (by simp; omega) (fun q => ?_) fun q => ?_
        · rcases List.mem_append.1 hy with e | e
          · exact hkn y e
          · obtain rfl : y = (d', ps[j]) := by simpa using e
            exact hd'
        · rcases hcase with q' | ⟨_, q'⟩
          · rw [q'] at q; cases q
          · obtain ⟨a, b'⟩ := hnd q
            rw [htk]
            refine ⟨by simp [a], fun p hp => ?_⟩
            rcases List.mem_append.1 hp with e | e
            · exact b' p e
            · obtain rfl : p = ps[j] := by simpa using e
              exact q'
        · obtain ⟨a, b'⟩ := hd q
          refine ⟨by rw [← a, hdr, List.map_append, List.append_assoc]; rfl, fun p hp => b' p (by rw [hdr]; exact List.mem_cons_of_mem _ hp)⟩
      · have : ps[j].lba = x.lba := by simpa using q
        exact absurd this hne
    refine bsplit_iff.2 ⟨fun q1 => ?_, fun q1 => ?_⟩
    · have hdn : dn = false := by simpa using q1
      obtain ⟨n1, n2⟩ := hnd hdn
      obtain ⟨ad3, q3, ha3, d1, d2, d3⟩ := hb.get (st_pool hF hst2 1 rfl) hlt'
      rw [onP_some]
      refine ⟨bl, cb (l := [_, _, _]) hst2, by omega, by simpa using hlt, onP_i ha3 ⟨_, d1, x.lba, st_c0 hst2 2 rfl rfl, bsplit_decide.2 ⟨fun q2 => ?_, fun q2 => part3 (.inr ⟨hdn, by omega⟩)⟩⟩⟩
      refine ⟨(x.lba, d), ⟨st_c0 hst2 2 rfl rfl, st_c1 hst2 2 rfl rfl⟩, st_newF hst2 fun w67 h67 => st_push h67 1 rfl 0 rfl rfl rfl (by omega) (by omega) rfl fun s68 w69 _ h69 => st_drew h69 fun w70 h70 => ?_⟩
      have h71 : St (ownS 2 s68 ((ys ++ [(d, x)]).flatMap putC) :: pool F :: objA (some ⟨w0.heap.size, 0, none⟩) [.int .i64 x.lba, slv d] :: r) w70 := by
        have := h70.cut 0 (by simp)
        simp only [List.set_cons_succ, List.set_cons_zero, List.eraseIdx_cons_zero] at this
        rw [putC_snoc ys d x] at this
        exact this
      have hyx : ∀ y ∈ ys ++ [(d, x)], Known F (y.1, y.2.data) := fun y hy => by
        rcases List.mem_append.1 hy with e | e
        · exact hkn y e
        · obtain rfl : y = (d, x) := by simpa using e
          exact hx
      have hyl' : ys.length = j := by
        have := congrArg List.length n1
        simp only [List.length_map, List.length_take] at this; omega
      have hins : insP ps x = ps.take j ++ (x :: if ps[j].lba = x.lba then ps.drop (j + 1) else ps[j] :: ps.drop (j + 1)) := by
        rw [insP_take j n2, hdr]
        congr 1
        conv => lhs; unfold insP
        rw [if_pos q2]
      obtain ⟨ad4, q4, ha4, g1, g2, g3⟩ := hb.get (st_pool hF h71 1 rfl) hlt'
      rw [onP_some]
      refine ⟨bl, cb (l := [_, _, _]) h71, by omega, by simpa using hlt, onP_i ha4 ⟨_, g1, x.lba, st_c0 h71 2 rfl rfl, bsplit_iff.2 ⟨fun q5 => ?_, fun q5 => ?_⟩⟩⟩
      · have hne : ps[j].lba ≠ x.lba := by simpa using q5
        refine p3 hne w70 s68 _ _ h71 (by simp; omega) fun s' w4 d' hd' h4 => ?_
        rw [withI_iff]
        refine nxt s' w4 true _ h4 (fun y hy => ?_) (by simp; omega) (fun q => (by cases q)) fun _ => ⟨?_, fun p hp => ?_⟩
        · rcases List.mem_append.1 hy with e | e
          · exact hyx y e
          · obtain rfl : y = (d', ps[j]) := by simpa using e
            exact hd'
        · rw [hins, if_neg hne]; simp [n1]
        · have := hrest p hp; omega
      · have heq : ps[j].lba = x.lba := by simpa using q5
        rw [withI_iff]
        refine nxt s68 w70 true _ h71 hyx (by simp; omega) (fun q => (by cases q)) fun _ => ⟨?_, fun p hp => ?_⟩
        · rw [hins, if_pos heq]; simp [n1]
        · have := hrest p hp; omega
    · exact part3 (.inl (by simpa using q1))
  · obtain rfl : j = ps.length := by simp at hge; omega
    refine bsplit_iff.2 ⟨fun q1 => ?_, fun q1 => ?_⟩
    · have hdn : dn = false := by simpa using q1
      obtain ⟨n1, n2⟩ := hnd hdn
      refine ⟨(x.lba, d), ⟨st_c0 hst 2 rfl rfl, st_c1 hst 2 rfl rfl⟩, st_newF hst fun w67 h67 => st_push h67 1 rfl 0 rfl rfl rfl (by omega) (by omega) rfl fun s68 w69 _ h69 => ?_⟩
      have h71 : St (ownS 2 s68 ((ys ++ [(d, x)]).flatMap putC) :: pool F :: objA (some ⟨w0.heap.size, 0, none⟩) [.int .i64 x.lba, slv d] :: r) w69 := by
        have := h69.cut 0 (by simp)
        simp only [List.set_cons_succ, List.set_cons_zero, List.eraseIdx_cons_zero] at this
        rw [putC_snoc ys d x] at this
        exact this
      refine fin s68 _ w69 h71 (fun y hy => ?_) ?_
      · rcases List.mem_append.1 hy with e | e
        · exact hkn y e
        · obtain rfl : y = (d, x) := by simpa using e
          exact hx
      · rw [insP_take ps.length n2, List.drop_length]
        simp [n1, insP]
    · obtain ⟨n1, _⟩ := hd (by simpa using q1)
      rw [List.drop_length, List.append_nil] at n1
      exact fin out ys w' hst hkn n1
theorem st_swap01 {A B : HP} {r : List HP} {w : World} (h : St (A :: B :: r) w) : St (B :: A :: r) w := h.to (by simp only [big_cons]; ac_rfl)
theorem st_rot3 {A B C : HP} {r : List HP} {w : World} (h : St (A :: B :: C :: r) w) : St (B :: C :: A :: r) w := h.to (by simp only [big_cons]; ac_rfl)
theorem st_swap12 {A B C : HP} {r : List HP} {w : World} (h : St (A :: B :: C :: r) w) : St (A :: C :: B :: r) w := h.to (by simp only [big_cons]; ac_rfl)
theorem set_self {α : Type} {l : List α} {i : Nat} {a : α} (h : l[i]? = some a) : l.set i a = l := by
  obtain ⟨h2, h3⟩ := List.getElem?_eq_some_iff.1 h
  rw [← h3, List.set_getElem_self]
theorem newOnes_snoc (d : List (Int × List UInt8)) (l : List Put) (x : Put) : newOnes d (l ++ [x]) = newOnes d l + if (lkp d x.lba).isNone then 1 else 0 := by
  unfold newOnes
  rw [List.filter_append, List.length_append]
  congr 1
  by_cases h : (lkp d x.lba).isNone
  · simp [h]
  · simp [h]
theorem rbuf_write {b : Nat} {B : Buf} {bl s : SV} {l : List Put} {F : Heap → Prop} {r : List HP} {w : World} {K : Int → World → Prop} (hF : Mono F) (h : St (pool F :: r) w) (i0 : Nat) (hi0 : r[i0]? = some (objA (some ⟨b, 0, none⟩) [.int .i64 B.blocks, .int .i64 B.most, slv bl])) (hb : KPuts F bl B.puts) (nd : (B.data.map Prod.fst).Nodup)
    (hl0 : KPuts F s l) (hn : l.length ≤ 2 ^ 20) (hB : B.data.length ≤ 2 ^ 20)
    (hk : ∀ F' bl' w', Mono F' → (∀ h, F' h → F h) → KPuts F' bl' (B.write l).1.puts → St (pool F' :: r.set i0 (objA (some ⟨b, 0, none⟩) [.int .i64 B.blocks, .int .i64 B.most, slv bl'])) w' → K (B.write l).2 w') : c_scarpref11_Buf_Write (some ⟨b, 0, none⟩) s w K := by
  refine scarpref11_Buf_Write_go ?_
  unfold f_scarpref11_Buf_Write
  have hl : ∀ w', F (hp w') → putsOn (hp w') s l := fun w' hw => hl0.on hw
  have hsn := hl0.n
  have hpl := puts_length B
  have fin : ∀ w' c, St (pool F :: r) w' → B.write l = (B, c) → K c w' := fun w' c h' q => by
    have := hk F bl w' hF (fun _ h => h) (by rw [q]; exact hb) (by rw [set_self hi0]; exact h')
    rw [q] at this; exact this
  refine bsplit_decide.2 ⟨fun h0 => fin _ _ h (by unfold Buf.write; rw [if_pos (by omega)]), fun h0 => ?_⟩
  have h0' : ¬ l.length = 0 := by omega
  refine loop_i (fun (x : Int × Int) w' => ∃ i : Nat, x = (0, (i : Int)) ∧ i ≤ l.length ∧ St (pool F :: r) w' ∧ ∀ j (hj : j < l.length), j < i → outOf B.blocks l[j] = false) (fun x _ => l.length - x.2.toNat) ⟨0, rfl, by omega, h, fun j _ h => by omega⟩ ?_
  rintro x w1 ⟨i, rfl, hi, h1, hall⟩
  dsimp only
  refine bsplit_decide.2 ⟨fun hlt => ?_, fun hge => ?_⟩
  · have hlt' : i < l.length := by omega
    have h2 := h1.drew
    rw [withW_iff]
    generalize w1.drew = w2 at h2 ⊢
    obtain ⟨ad, d, ha, c1, c2, c3⟩ := (hl _ (st_pool hF h2 0 rfl)).2 i hlt'
    have bad : outOf B.blocks l[i] = true → K 2 w2 := fun q => fin _ _ h2 (by unfold Buf.write; rw [if_neg h0', if_pos (any_hit hlt' q)])
    refine ⟨by omega, hlt, onP_i ha ⟨_, c1, bsplit_decide.2 ⟨fun q => bad (by simp [outOf, q]), fun q => ⟨by omega, hlt, onP_i ha ⟨_, c1, ?_⟩⟩⟩⟩⟩
    rw [onP_some]
    refine ⟨_, st_c0 h2 (i0 + 1) (by simpa using hi0) rfl, bsplit_decide.2 ⟨fun q2 => bad (by simp [outOf, q2]), fun q2 => ?_⟩⟩
    have e1 := inc_of hlt' (by omega)
    exact ⟨⟨i + 1, by rw [e1], by omega, h2, next_all (p := outOf B.blocks) hlt' hall (by simp only [outOf, Bool.or_eq_false_iff, decide_eq_false_iff_not]; omega)⟩, by simp only [e1]; omega⟩
  obtain rfl : i = l.length := by omega
  have no1 := any_done (p := outOf B.blocks) hall
  clear hall hi hge
  refine loop_i (fun (x : Int × Int) w' => ∃ i : Nat, x = (0, (i : Int)) ∧ i ≤ l.length ∧ St (pool F :: r) w' ∧ ∀ j (hj : j < l.length), j < i → badLen l[j] = false) (fun x _ => l.length - x.2.toNat) ⟨0, rfl, by omega, h1, fun j _ h => by omega⟩ ?_
  rintro x w1 ⟨i, rfl, hi, h1, hall⟩
  dsimp only
  refine bsplit_decide.2 ⟨fun hlt => ?_, fun hge => ?_⟩
  · have hlt' : i < l.length := by omega
    obtain ⟨ad, d, ha, c1, c2, c3⟩ := (hl _ (st_pool hF h1 0 rfl)).2 i hlt'
    have hdn := c3.1
    refine ⟨by omega, hlt, onP_i ha ⟨d, c2, bsplit_iff.2 ⟨fun q => ?_, fun q => ?_⟩⟩⟩
    · refine fin _ _ h1 ?_
      unfold Buf.write
      rw [if_neg h0', if_neg (by rw [no1]; simp), if_pos (any_hit hlt' ?_)]
      simp only [Bool.not_eq_true', decide_eq_false_iff_not] at q
      simp only [badLen, Bool.not_eq_true', decide_eq_false_iff_not]; omega
    · have e1 := inc_of hlt' (by omega)
      refine ⟨⟨i + 1, by rw [e1], by omega, h1, next_all (p := badLen) hlt' hall ?_⟩, by simp only [e1]; omega⟩
      simp only [Bool.not_eq_false', decide_eq_true_eq] at q
      simp only [badLen, Bool.not_eq_false', decide_eq_true_eq]; omega
  obtain rfl : i = l.length := by omega
  have h40 : ∀ x ∈ l, x.data.length = 40 := fun x hx => by
    obtain ⟨j, hj, rfl⟩ := List.getElem_of_mem hx
    have := hall j hj hj
    simpa [badLen] using this
  have no2 := any_done (p := badLen) hall
  clear hall hi hge
  refine loop_i (fun (x : Int × Int × Int) w' => ∃ i : Nat, x = (0, ((newOnes B.data (l.take i) : Nat) : Int), (i : Int)) ∧ i ≤ l.length ∧ St (pool F :: r) w' ∧ ((l.take i).map Put.lba).Nodup) (fun x _ => l.length - x.2.2.toNat) ⟨0, by simp [newOnes], by omega, h1, by simp⟩ ?_
  rintro x w1 ⟨i, rfl, hi, h1, hnd⟩
  dsimp only
  have hno : ∀ i, newOnes B.data (l.take i) ≤ l.length := fun i => by
    have := List.length_filter_le (fun p => (lkp B.data p.lba).isNone) (l.take i)
    rw [List.length_take] at this
    unfold newOnes; omega
  refine bsplit_decide.2 ⟨fun hlt => ?_, fun hge => ?_⟩
  · have hlt' : i < l.length := by omega
    refine loop_i (fun (x : Int × Int) w' => ∃ k : Nat, x = (0, (k : Int)) ∧ k ≤ i ∧ St (pool F :: r) w' ∧ ∀ j (hj : j < l.length), j < k → l[j].lba ≠ l[i].lba) (fun x _ => i - x.2.toNat) ⟨0, rfl, by omega, h1, fun j _ h => by omega⟩ ?_
    rintro x w2 ⟨k, rfl, hk', h2, hall⟩
    dsimp only
    refine bsplit_decide.2 ⟨fun hkl => ?_, fun hkg => ?_⟩
    · have hki : k < i := by omega
      have h3 := h2.drew
      rw [withW_iff]
      generalize w2.drew = w3 at h3 ⊢
      have hon := hl _ (st_pool hF h3 0 rfl)
      obtain ⟨ad, d, ha, c1, c2, c3⟩ := hon.2 k (by omega)
      obtain ⟨ad', d', ha', c1', c2', c3'⟩ := hon.2 i hlt'
      refine ⟨by omega, by omega, onP_i ha ⟨_, c1, by omega, by omega, onP_i ha' ⟨_, c1', bsplit_decide.2 ⟨fun q => ?_, fun q => ?_⟩⟩⟩⟩
      · refine fin _ _ h3 ?_
        unfold Buf.write
        rw [if_neg h0', if_neg (by rw [no1]; simp), if_neg (by rw [no2]; simp), if_pos ?_]
        unfold twiceM
        simp only [Bool.not_eq_true', decide_eq_false_iff_not]
        intro hnd'
        rw [List.nodup_iff_pairwise_ne, List.pairwise_map, List.pairwise_iff_getElem] at hnd'
        exact hnd' k i (by omega) hlt' hki q
      · have e1 := inc_of hki (by omega)
        refine ⟨⟨k + 1, by rw [e1], by omega, h3, fun j hj hjk => ?_⟩, by simp only [e1]; omega⟩
        rcases Nat.lt_succ_iff_lt_or_eq.1 hjk with h' | h'
        · exact hall j hj h'
        · subst h'; exact q
    · obtain rfl : k = i := by omega
      obtain ⟨ad, d, ha, c1, c2, c3⟩ := (hl _ (st_pool hF h2 0 rfl)).2 k hlt'
      have e1 := inc_of hlt' (by omega)
      have htk : l.take (k + 1) = l.take k ++ [l[k]] := List.take_succ_eq_append_getElem hlt'
      have hnd' : ((l.take (k + 1)).map Put.lba).Nodup := by
        rw [htk, List.map_append, List.nodup_append]
        refine ⟨hnd, by simp, fun a ha b hb => ?_⟩
        obtain ⟨p, hp, rfl⟩ := List.mem_map.1 ha
        obtain rfl : b = l[k].lba := by simpa using hb
        obtain ⟨j, hj, rfl⟩ := List.getElem_of_mem hp
        rw [List.length_take] at hj
        rw [List.getElem_take]
        exact hall j (by omega) (by omega)
      have hno' := hno k
      have hb0 : w2.cell? ⟨b, 2, none⟩ = some (slv bl) := st_c0 h2 (i0 + 1) (by simpa using hi0) rfl
      refine ⟨by omega, hlt, onP_i ha ⟨_, c1, rbuf_get hb0 hb (st_pool hF h2 0 rfl) (by omega) (fun hno2 => ?_) fun d' p hp hpe _ => ?_⟩⟩
      · refine bsplit_iff.2 ⟨fun _ => ?_, fun e => (by cases e)⟩
        simp only [withI_iff]
        have hl0 : lkp B.data l[k].lba = none := by
          cases e : lkp B.data l[k].lba with
          | none => rfl
          | some v => exact absurd rfl (hno2 ⟨l[k].lba, v⟩ (by cases B; exact mem_puts.2 e))
        have e2 : newOnes B.data (l.take (k + 1)) = newOnes B.data (l.take k) + 1 := by rw [htk, newOnes_snoc, hl0]; rfl
        have e3 : IntKind.i64.wrap (((newOnes B.data (l.take k) : Nat) : Int) + 1) = ((newOnes B.data (l.take (k + 1)) : Nat) : Int) := by rw [wrap_of (by omega) (by omega), e2]; omega
        exact ⟨⟨k + 1, by rw [e1, e3], by omega, h2, hnd'⟩, by simp only [e1]; omega⟩
      · refine bsplit_iff.2 ⟨fun e => (by cases e), fun _ => ?_⟩
        rw [withI_iff]
        have hl0 : lkp B.data l[k].lba = some p.data := by
          rw [← hpe]; exact (mem_puts (a := B.blocks) (b := B.most)).1 (by cases B; exact hp)
        have e2 : newOnes B.data (l.take (k + 1)) = newOnes B.data (l.take k) := by rw [htk, newOnes_snoc, hl0]; rfl
        exact ⟨⟨k + 1, by rw [e1, e2], by omega, h2, hnd'⟩, by simp only [e1]; omega⟩
  obtain rfl : i = l.length := by omega
  rw [List.take_length] at hnd ⊢
  have hno' := hno l.length
  rw [List.take_length] at hno'
  have no3 : ¬ twiceM l = true := by
    unfold twiceM
    simpa using hnd
  have h2 := h1.drew
  rw [withW_iff]
  generalize w1.drew = w2 at h2 ⊢
  have hbn := hb.n
  rw [onP_some]
  refine ⟨bl, st_c1 h2 (i0 + 1) (by simpa using hi0) rfl, ?_⟩
  rw [onP_some]
  refine ⟨_, st_c1 h2 (i0 + 1) (by simpa using hi0) rfl, ?_⟩
  rw [wrap_of (by omega) (by omega)]
  refine bsplit_decide.2 ⟨fun q => ?_, fun q => ?_⟩
  · refine fin _ _ h2 ?_
    unfold Buf.write
    rw [if_neg h0', if_neg (by rw [no1]; simp), if_neg (by rw [no2]; simp), if_neg no3, if_pos (by omega)]
  have hw : B.write l = ({ B with data := putsIn B.data l }, 0) := by
    unfold Buf.write
    rw [if_neg h0', if_neg (by rw [no1]; simp), if_neg (by rw [no2]; simp), if_neg no3, if_neg (by omega)]
  rw [hw] at hk
  have hps : ∀ i, i ≤ l.length → ((l.take i).foldl insP B.puts).Pairwise (fun x y => x.lba < y.lba) ∧ ((l.take i).foldl insP B.puts).length ≤ 2 ^ 20 + i := by
    intro i
    induction i with
    | zero =>
      intro _
      refine ⟨by cases B; exact puts_sorted nd, ?_⟩
      simp only [List.take_zero, List.foldl_nil]; omega
    | succ i ih =>
      intro hi
      obtain ⟨a, b⟩ := ih (by omega)
      rw [List.take_succ_eq_append_getElem (by omega), List.foldl_append]
      simp only [List.foldl_cons, List.foldl_nil]
      refine ⟨insP_sorted a, ?_⟩
      have := insP_length ((l.take i).foldl insP B.puts) l[i]
      omega
  refine loop_i (fun (x : Int) w' => ∃ i : Nat, x = (i : Int) ∧ i ≤ l.length ∧ ∃ F' bl', Mono F' ∧ (∀ h, F' h → F h) ∧ KPuts F' bl' ((l.take i).foldl insP B.puts) ∧ St (pool F' :: r.set i0 (objA (some ⟨b, 0, none⟩) [.int .i64 B.blocks, .int .i64 B.most, slv bl'])) w') (fun x _ => l.length - x.toNat)
    ⟨0, rfl, by omega, F, bl, hF, fun _ h => h, hb, by rw [set_self hi0]; exact h2⟩ ?_
  rintro x w3 ⟨i, rfl, hi, F', bl', f1, f2, f3, h3⟩
  refine bsplit_decide.2 ⟨fun hlt => ?_, fun hge => ?_⟩
  · have hlt' : i < l.length := by omega
    have h4 := h3.drew
    rw [withW_iff]
    generalize w3.drew = w4 at h4 ⊢
    have hg : ∀ {w' : World}, F' (hp w') → F (hp w') := fun h => f2 _ h
    obtain ⟨xs, hxs, hrow, hkn⟩ := hl0
    have hxl : i < xs.length := by rw [← hxs] at hlt'; simpa using hlt'
    have hxi : l[i] = xs[i].2 := by simp only [← hxs, List.getElem_map]
    have hd := hkn _ (List.getElem_mem hxl)
    have h40i := h40 _ (List.getElem_mem hlt')
    have cells : ∀ w' : World, F' (hp w') → ∃ ad, s.a = some ad ∧ w'.cell? (ad.add (i * 2)) = some (.int .i64 xs[i].2.lba) ∧ w'.cell? ((ad.add (i * 2)).add 1) = some (.slice xs[i].1.a xs[i].1.n xs[i].1.c) := fun w' hw' => by
      obtain ⟨ad, a, b', c⟩ := KRow.get hrow (fun _ => rfl) (by omega) (f2 _ hw') hxl
      exact ⟨ad, a, b', c 1 (by omega)⟩
    obtain ⟨ad, ha, _⟩ := cells w4 (st_pool f1 h4 0 rfl)
    have cell1 : ∀ w' : World, F' (hp w') → w'.cell? (ad.add (i * 2)) = some (.int .i64 xs[i].2.lba) ∧ w'.cell? ((ad.add (i * 2)).add 1) = some (.slice xs[i].1.a xs[i].1.n xs[i].1.c) := fun w' hw' => by
      obtain ⟨ad', e, p⟩ := cells w' hw'
      rw [ha] at e; cases e; exact p
    rw [hxi] at h40i
    have hdn : xs[i].1.n = 40 := by rw [(hd _ (f2 _ (st_pool f1 h4 0 rfl))).1]; exact h40i
    have hsort := hps i (by omega)
    have hxe : xs[i].2 = l[i] := hxi.symm
    generalize hy : xs[i].2 = y at *
    generalize xs[i].1 = d at *
    have hrowd : ∀ {w' : World}, F' (hp w') → rowOn (hp w') d (bytesV y.data) := fun h => (hd _ (f2 _ h)).2
    have hby : (bytesV y.data).length = d.n * 1 := by rw [hdn]; simp [bytesV, h40i]
    have hone : (bytesV y.data).all Vc.one = true := by simp [bytesV, Vc.one]
    -- the rest, however it was come to
    have rest : ∀ (w53 w52 : World) (s51 : SV), St (ownS 1 s51 (bytesV y.data) :: pool F' :: objA (some ⟨w52.heap.size, 0, none⟩) [.int .i64 0, .slice none 0 0] :: r.set i0 (objA (some ⟨b, 0, none⟩) [.int .i64 B.blocks, .int .i64 B.most, slv bl'])) w53 →
        f_scarpref11_Buf_Write_p2 (fun w' => F' (hp w')) w53 w52 y.lba s51 (some ⟨b, 0, none⟩) (fun x' w' => (∃ i : Nat, x' = (i : Int) ∧ i ≤ l.length ∧ ∃ F' bl', Mono F' ∧ (∀ h, F' h → F h) ∧ KPuts F' bl' ((l.take i).foldl insP B.puts) ∧ St (pool F' :: r.set i0 (objA (some ⟨b, 0, none⟩) [.int .i64 B.blocks, .int .i64 B.most, slv bl'])) w') ∧ l.length - x'.toNat < l.length - (i : Int).toNat) (i : Int) := fun w53 w52 s51 h53 => by
      have hF53 := st_pool f1 h53 1 rfl
      obtain ⟨F2, g1, g2, g3, g4⟩ := freezeB f1 h53
      refine rbuf_ins (S := fun w' => F' (hp w')) (x := y) g1 g4 hF53 i0 (by rw [List.getElem?_set_self (lt_of_get hi0)]) rfl (f3.more g2) hsort.1 (by omega) g3 fun F3 bl3 w' k1 k2 k3 k4 => ?_
      have e1 := inc_of hlt' (by omega)
      refine ⟨⟨i + 1, e1, by omega, F3, bl3, k1, fun h hh => f2 _ (g2 _ (k2 _ hh)), ?_, ?_⟩, by simp only [e1]; omega⟩
      · rw [List.take_succ_eq_append_getElem hlt', List.foldl_append, ← hxe]
        exact k3
      · rw [List.set_set] at k4; exact k4
    refine ⟨fun w' => F' (hp w'), st_pool f1 h4 0 rfl, by omega, hlt, onP_i ha ⟨y.lba, fun w' hw' => (cell1 w' hw').1, by omega, hlt, onP_i ha ⟨d, fun w' hw' => (cell1 w' hw').2, ?_, ?_⟩⟩⟩
    · refine st_emptyF 1 h4 fun w50 h50 => ⟨st_pool f1 h50 1 rfl, ?_, ?_⟩
      · refine st_append h50 0 rfl (hrowd (st_pool f1 h50 1 rfl)) hby (by omega) hone (by simp only; omega) (by omega) rfl fun s51 w52 _ h52 => ⟨st_pool f1 h52 1 rfl, st_newF h52 fun w53 h53 => rest _ _ _ (st_rot3 h53)⟩
      · refine st_newF h50 fun w123 h123 => ⟨st_pool f1 h123 2 rfl, ?_⟩
        exact st_append h123 1 rfl (hrowd (st_pool f1 h123 2 rfl)) hby (by omega) hone (by simp only; omega) (by omega) rfl fun s51 w52 _ h52 => rest _ _ _ (st_rot3 h52)
    · refine st_newF h4 fun w195 h195 => ⟨st_pool f1 h195 1 rfl, st_emptyF 1 h195 fun w196 h196 => ⟨st_pool f1 h196 2 rfl, ?_⟩⟩
      exact st_append h196 0 rfl (hrowd (st_pool f1 h196 2 rfl)) hby (by omega) hone (by simp only; omega) (by omega) rfl fun s51 w52 _ h52 => rest _ _ _ (st_swap12 h52)
  · obtain rfl : i = l.length := by omega
    rw [List.take_length] at f3
    refine hk F' bl' w3 f1 f2 ?_ h3
    have := puts_putsIn (a := B.blocks) (b := B.most) l nd
    rw [show ({ B with data := putsIn B.data l } : Buf) = ⟨B.blocks, B.most, putsIn B.data l⟩ from rfl, this]
    exact f3
end Go.Proofs.YtbolgpjcmchfoaaGreat
