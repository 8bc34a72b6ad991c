/- The reference's sets: putting extents in. -/
import Derived.Test.YtbolgpjcmchfoaaGreatUc
namespace Go.Proofs.YtbolgpjcmchfoaaGreat
open Go Go.Vc Go.Sl Go.Mo
theorem two_of {A B : HP} {r : List HP} {w : World} (h : St (A :: B :: r) w) : Sat (A * B) w := by
  have h1 : Sat (bigS r * (A * B)) w := h.to (by simp only [big_cons]; ac_rfl)
  exact h1.right
theorem St.pre {l m : List HP} {w : World} (h : St (l ++ m) w) : St l w := by
  have e : ∀ l : List HP, bigS (l ++ m) = bigS m * bigS l := fun l => by
    induction l with
    | nil => simp [bigS]
    | cons A l ih => rw [List.cons_append, big_cons, ih, big_cons]; ac_rfl
  unfold St at h
  rw [e] at h
  exact h.right
theorem enc_snoc (l : List Ext) (x : Ext) : l.flatMap encE ++ [.int .i64 x.first, .int .i64 x.len] = (l ++ [x]).flatMap encE := by simp [encE]
theorem rput_c {s : SV} {l : List Ext} {e : Ext} {R : HP} {w : World} {K : SV → World → Prop} (h : Sat R w) (hl : ∀ w', Sat R w' → extsOn (hp w') s l) (hn : l.length ≤ 2 ^ 30) (ok : ∀ x ∈ l, okX x) (he : okX e) (nf : NF l)
    (hk : ∀ s' w', Sat (extsA s' (putR l e.first (e.first + e.len)) * R) w' → K s' w') : c_scarpref11_put s e.first e.len w K := by
  refine scarpref11_put_go ?_
  unfold f_scarpref11_put
  have hsn := (hl _ h).1
  have he' := he
  unfold okX at he'
  refine st_new (St.of1 h) fun w1 h1 => ?_
  refine ⟨_, st_c0 h1 1 rfl rfl, _, st_c0 h1 1 rfl rfl, _, st_c1 h1 1 rfl rfl, ?_⟩
  rw [wrap_of (by omega) (by omega)]
  generalize hP : putR l e.first (e.first + e.len) = P at hk
  refine loop_i (fun (x : SV × Bool × Int × Int × Int) w' => ∃ i : Nat, x.2.2.2.2 = i ∧ i ≤ l.length ∧ (0 ≤ x.2.2.1 ∧ x.2.2.1 < x.2.2.2.1 ∧ x.2.2.2.1 ≤ 1048577) ∧ ∃ acc, Sat (extsA x.1 acc * R) w' ∧ acc.length ≤ i + 1 ∧
    (x.2.1 = false → acc.length ≤ i ∧ acc ++ putR (l.drop i) x.2.2.1 x.2.2.2.1 = P) ∧ (x.2.1 = true → acc ++ l.drop i = P ∧ ∀ y ∈ l.drop i, x.2.2.2.1 < y.first)) (fun x _ => l.length - x.2.2.2.2.toNat)
    ⟨0, rfl, by omega, ⟨by simp only; omega, by simp only; omega, by simp only; omega⟩, [], ownS_nil (St.pre (l := [R]) h1).to1 rfl rfl, by simp, fun _ => ⟨by simp, hP⟩, fun e => by cases e⟩ ?_
  rintro ⟨out, dn, f, en, x⟩ w6 ⟨i, hx, hi, ⟨hf0, hfe, hen⟩, acc, hs, hal, hnd, hd⟩
  simp only at hx hf0 hfe hen hs hnd hd; subst hx
  dsimp only [f_scarpref11_put_p1]
  have hon := ownS_length hs
  rw [encE_length] at hon
  refine bsplit_decide.2 ⟨fun hlt => ?_, fun hge => ?_⟩
  · have hlt' : i < l.length := by simp at hlt; omega
    obtain ⟨ad, ha, c1, c2⟩ := (hl _ hs.right).2 i hlt'
    have hx := ok _ (List.getElem_mem hlt')
    have hdr := List.drop_eq_getElem_cons hlt'
    have e1 := inc_of hlt' (by omega)
    have hin : l[i] ∈ l.drop i := by rw [hdr]; exact List.mem_cons_self
    have hrest : ∀ y ∈ l.drop (i + 1), l[i].first + l[i].len < y.first := by
      have := nf.1.sublist (List.drop_sublist i l)
      rw [hdr] at this
      exact (List.pairwise_cons.1 this).1
    rw [hdr] at hnd
    unfold putR at hnd
    generalize l[i] = z at *
    unfold okX at hx
    refine ⟨by omega, hlt, onP_i ha ⟨(z.first, z.len), ⟨c1, c2⟩, ?_⟩⟩
    refine st_new (St.of2 hs) fun w10 h10 => st_s2 h10 2 rfl fun w11 h11 => ?_
    refine ⟨_, st_c0 h11 2 rfl rfl, _, st_c1 h11 2 rfl rfl, ?_⟩
    rw [wrap_of (by omega) (by omega)]
    refine bsplit_decide.2 ⟨fun q1 => ⟨(z.first, z.len), ⟨st_c0 h11 2 rfl rfl, st_c1 h11 2 rfl rfl⟩, ?_⟩, fun q1 => ⟨_, st_c0 h11 2 rfl rfl, bsplit_decide.2 ⟨fun q2 => bsplit_iff.2 ⟨fun q3 => ?_, fun q3 => ?_⟩, fun q2 => ?_⟩⟩⟩
    · refine st_new h11 fun w15 h15 => st_push h15 0 rfl 3 rfl rfl rfl (by omega) (by omega) rfl fun s16 w17 hn h17 => ?_
      rw [withI_iff]
      have hdn : dn = false := by
        cases dn with
        | false => rfl
        | true => have := (hd rfl).2 _ hin; omega
      refine ⟨⟨i + 1, e1, by omega, ⟨hf0, hfe, hen⟩, acc ++ [z], ?_, by simp; omega, fun _ => ⟨by have := (hnd hdn).1; simp; omega, ?_⟩, fun q => ?_⟩, by simp only [e1]; omega⟩
      · have := two_of h17
        rw [enc_snoc] at this
        exact this
      · have := (hnd hdn).2
        rw [if_pos q1] at this
        simpa using this
      · rw [hdn] at q; cases q
    · have hdn : dn = false := by simpa using q3
      refine st_new h11 fun w20 h20 => st_push h20 0 rfl 3 rfl rfl rfl (by omega) (by omega) rfl fun s21 w22 hn h22 => ?_
      refine ⟨(z.first, z.len), ⟨st_c0 h22 2 rfl rfl, st_c1 h22 2 rfl rfl⟩, st_new h22 fun w24 h24 => st_push h24 0 rfl 4 rfl rfl rfl (by omega) (by omega) rfl fun s25 w26 hn2 h26 => ?_⟩
      rw [withI_iff]
      refine ⟨⟨i + 1, e1, by omega, ⟨hf0, hfe, hen⟩, acc ++ [⟨f, en - f⟩] ++ [z], ?_, by have := (hnd hdn).1; simp; omega, fun q => (by cases q), fun _ => ⟨?_, fun y hy => ?_⟩⟩, by simp only [e1]; omega⟩
      · have := two_of h26
        rw [wrap_of (x := en - f) (by omega) (by omega)] at this
        rw [enc_snoc acc ⟨f, en - f⟩, enc_snoc] at this
        exact this
      · have := (hnd hdn).2
        rw [if_neg q1, if_pos q2] at this
        simpa using this
      · have := hrest y hy; omega
    · have hdn : dn = true := by simpa using q3
      refine ⟨(z.first, z.len), ⟨st_c0 h11 2 rfl rfl, st_c1 h11 2 rfl rfl⟩, st_new h11 fun w15 h15 => st_push h15 0 rfl 3 rfl rfl rfl (by omega) (by omega) rfl fun s16 w17 hn h17 => ?_⟩
      rw [withI_iff]
      obtain ⟨d1, d2⟩ := hd hdn
      refine ⟨⟨i + 1, e1, by omega, ⟨hf0, hfe, hen⟩, acc ++ [z], ?_, by simp; omega, fun q => (by rw [hdn] at q; cases q), fun _ => ⟨?_, fun y hy => d2 y (by rw [hdr]; simp [hy])⟩⟩, by simp only [e1]; omega⟩
      · have := two_of h17
        rw [enc_snoc] at this
        exact this
      · rw [← d1, hdr]; simp
    · have hdn : dn = false := by
        cases dn with
        | false => rfl
        | true => have := (hd rfl).2 _ hin; omega
      refine ⟨_, st_c0 h11 2 rfl rfl, ?_⟩
      rw [withI_iff]
      refine ⟨_, st_c0 h11 2 rfl rfl, _, st_c1 h11 2 rfl rfl, ?_⟩
      rw [withI_iff, withI_iff, wrap_of (x := z.first + z.len) (by omega) (by omega)]
      have m1 : (if z.first < f then z.first else f) = min f z.first := by split <;> omega
      have m2 : (if z.first + z.len > en then z.first + z.len else en) = max en (z.first + z.len) := by split <;> omega
      rw [m1, m2]
      refine ⟨⟨i + 1, e1, by omega, ⟨by omega, by omega, by omega⟩, acc, two_of h11, by omega, fun _ => ⟨by have := (hnd hdn).1; omega, ?_⟩, fun q => (by rw [hdn] at q; cases q)⟩, by simp only [e1]; omega⟩
      have := (hnd hdn).2
      rw [if_neg q1, if_neg q2] at this
      exact this
  · obtain rfl : i = l.length := by simp at hge; omega
    rw [List.drop_length] at hnd hd
    refine bsplit_iff.2 ⟨fun q3 => ?_, fun q3 => ?_⟩
    · have hdn : dn = false := by simpa using q3
      refine st_new (St.of2 hs) fun w20 h20 => st_push h20 0 rfl 2 rfl rfl rfl (by omega) (by omega) rfl fun s21 w22 hn h22 => hk _ _ ?_
      have := two_of h22
      rw [wrap_of (x := en - f) (by omega) (by omega), enc_snoc acc ⟨f, en - f⟩] at this
      have h3 := (hnd hdn).2
      unfold putR at h3
      rw [← h3]
      exact this
    · have hdn : dn = true := by simpa using q3
      have h3 := (hd hdn).1
      rw [List.append_nil] at h3
      exact hk _ _ (by rw [← h3]; exact hs)
/-- One extent is put into a set that lies in a thing of one's own. -/
theorem rset_add {b o bx : Nat} {cs : List Value} {S : XSet} {s : SV} {e : Ext} {F : Heap → Prop} {r : List HP} {w : World} {K : Int → World → Prop} (hF : Mono F) (h : St (pool F :: r) w) (i : Nat) (hi : r[i]? = some (objA (some ⟨b, 0, none⟩) cs)) (hm : cs[o]? = some (.int .i64 S.most)) (hs : cs[o + 1]? = some (slv s))
    (hS : KExts F s S.l) (hm0 : 0 ≤ S.most) (hn : S.l.length ≤ 2 ^ 29) (ok : ∀ x ∈ S.l, okX x) (nf : NF S.l) (j : Nat) (hj : r[j]? = some (objA (some ⟨bx, 0, none⟩) [.int .i64 e.first, .int .i64 e.len]))
    (hk : ∀ F' s' w', Mono F' → (∀ h, F' h → F h) → KExts F' s' (S.add [e]).1.l → St (pool F' :: r.set i (objA (some ⟨b, 0, none⟩) (cs.set (o + 1) (slv s')))) w' → K (S.add [e]).2 w') : c_scarpref11_Set_Add (some ⟨b, o, none⟩) ⟨some ⟨bx, 0, none⟩, 1, 1⟩ w K := by
  refine scarpref11_Set_Add_go ?_
  unfold f_scarpref11_Set_Add
  have ej : (pool F :: r)[j + 1]? = some (objA (some ⟨bx, 0, none⟩) [.int .i64 e.first, .int .i64 e.len]) := by simpa using hj
  have ei : (pool F :: r)[i + 1]? = some (objA (some ⟨b, 0, none⟩) cs) := by simpa using hi
  have self : r.set i (objA (some ⟨b, 0, none⟩) (cs.set (o + 1) (slv s))) = r := by
    have h1 : cs.set (o + 1) (slv s) = cs := by
      obtain ⟨h2, h3⟩ := List.getElem?_eq_some_iff.1 hs
      rw [← h3, List.set_getElem_self]
    rw [h1]
    obtain ⟨h2, h3⟩ := List.getElem?_eq_some_iff.1 hi
    rw [← h3, List.set_getElem_self]
  have fin : ∀ w' c, St (pool F :: r) w' → S.add [e] = (S, c) → K c w' := fun w' c h' q => by
    have := hk F s w' hF (fun _ h => h) (by rw [q]; exact hS) (by rw [self]; exact h')
    rw [q] at this; exact this
  refine loop_i (fun (x : Int × Int) w' => St (pool F :: r) w' ∧ (x = (0, 0) ∨ x = (0, 1) ∧ may e = true)) (fun x _ => 1 - x.2.toNat) ⟨h, .inl rfl⟩ ?_
  rintro x w2 ⟨h2, rfl | ⟨rfl, hmay⟩⟩
  · refine bsplit_decide.2 ⟨fun _ => ⟨by omega, by omega, ?_⟩, fun q => by simp at q⟩
    rw [onP_some]
    refine ⟨(e.first, e.len), ⟨st_c1 h2 (j + 1) ej rfl, st_c2 h2 (j + 1) ej rfl⟩, rmay_c (a := e) fun w7 k7 => bsplit_iff.2 ⟨fun q => ?_, fun q => ?_⟩⟩
    · refine fin _ _ (h2.keep k7) ?_
      unfold XSet.add
      rw [if_pos (by simpa using q)]
    · refine ⟨⟨h2.keep k7, .inr ⟨?_, by simpa using q⟩⟩, ?_⟩
      · rw [wrap_of (by omega) (by omega)]; rfl
      · rw [wrap_of (by omega) (by omega)]; omega
  · refine bsplit_decide.2 ⟨fun q => by simp at q, fun _ => ?_⟩
    have he := may_okX hmay
    have hSn := KExts.n hS
    refine st_emptyF 2 h2 fun w8 h8 => ?_
    rw [onP_some]
    refine ⟨s, ?_, ?_⟩
    · rw [add_mk]; exact st_c0 h8 (i + 2) (by simpa using hi) hs
    refine st_append h8 0 rfl (KRow.on hS _ (st_pool hF h8 1 rfl)) hS.len (by omega) (encE_one _) (by simp only; omega) (by omega) rfl fun s11 w12 hn12 h12 => ?_
    have h12' : Sat (extsA s11 S.l * bigS (pool F :: r)) w12 := h12
    refine loop_i (fun (x : SV × Int) w' => ∃ l, Sat (extsA x.1 l * bigS (pool F :: r)) w' ∧ (x.2 = 0 ∧ l = S.l ∨ x.2 = 1 ∧ l = joinM (S.l ++ [e]))) (fun x _ => 1 - x.2.toNat) ⟨S.l, h12', .inl ⟨rfl, rfl⟩⟩ ?_
    rintro ⟨out, x⟩ w14 ⟨l, h14, ⟨hx, rfl⟩ | ⟨hx, rfl⟩⟩
    all_goals simp only at hx; subst hx; dsimp only at h14 ⊢
    · refine bsplit_decide.2 ⟨fun _ => ⟨by omega, by omega, ?_⟩, fun q => by simp at q⟩
      have hr : St (pool F :: r) w14 := h14.right
      rw [onP_some]
      refine ⟨(e.first, e.len), ⟨st_c1 hr (j + 1) ej rfl, st_c2 hr (j + 1) ej rfl⟩, rput_c (e := e) h14 (fun w' h' => extsA_on h'.left) (by omega) ok he nf fun s' w' h' => ⟨⟨joinM (S.l ++ [e]), ?_, .inr ⟨?_, rfl⟩⟩, ?_⟩⟩
      · rw [putR_join nf he.2.1] at h'
        have h3 : Sat (extsA out S.l * (extsA s' (joinM (S.l ++ [e])) * bigS (pool F :: r))) w' := h'.eq (by ac_rfl)
        exact h3.right
      · rw [wrap_of (by omega) (by omega)]; rfl
      · rw [wrap_of (by omega) (by omega)]; omega
    · refine bsplit_decide.2 ⟨fun q => by simp at q, fun _ => ?_⟩
      have hr : St (pool F :: r) w14 := h14.right
      have hln := extsA_n h14
      rw [onP_some]
      refine ⟨S.most, by exact st_c0 hr (i + 1) ei hm, ?_⟩
      have hmx : (if (0 : Int) > S.most then 0 else S.most) = S.most := by split <;> omega
      rw [hmx]
      have add : S.add [e] = if S.most < ((joinM (S.l ++ [e])).length : Int) then (S, 7) else ({ S with l := joinM (S.l ++ [e]) }, 0) := by
        unfold XSet.add
        rw [if_neg (by simpa using hmay), if_neg (by simp)]
      refine bsplit_decide.2 ⟨fun q => fin _ _ hr (by rw [add, if_pos (by omega)]), fun q => ?_⟩
      rw [if_neg (by omega)] at add
      have ho : o + 1 < cs.length := lt_of_get hs
      rw [onP_some]
      have h15 : St (extsA out (joinM (S.l ++ [e])) :: pool F :: r) w14 := h14
      refine st_s1 h15 (i + 2) (by simpa using hi) ho fun w' h' => ?_
      have h16 : Sat (extsA out (joinM (S.l ++ [e])) * (pool F * bigS (r.set i (objA (some ⟨b, 0, none⟩) (cs.set (o + 1) (slv out)))))) w' := h'
      obtain ⟨F', f1, f2, f3, f4⟩ := freeze hF h16
      have := hk F' out w' f1 f2 (by rw [add]; exact f3) f4
      rw [add] at this; exact this
end Go.Proofs.YtbolgpjcmchfoaaGreat
