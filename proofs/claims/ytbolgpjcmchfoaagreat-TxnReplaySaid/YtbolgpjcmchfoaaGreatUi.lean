/- The reference's book, what a buffer covers, reads. -/
import Derived.Test.YtbolgpjcmchfoaaGreatUh
namespace Go.Proofs.YtbolgpjcmchfoaaGreat
open Go Go.Vc Go.Sl Go.Mo
/-! ### What a buffer covers -/
def setOf (ps : List Put) : List Ext := ps.foldl (fun l p => joinM (l ++ [⟨p.lba, 1⟩])) []
theorem setOf_snoc (ps : List Put) (p : Put) : setOf (ps ++ [p]) = joinM (setOf ps ++ [⟨p.lba, 1⟩]) := by simp [setOf]
theorem setOf_ok (ps : List Put) (h : ∀ p ∈ ps, 0 ≤ p.lba ∧ p.lba < 1048576) : NF (setOf ps) ∧ (∀ x ∈ setOf ps, okX x) ∧ (setOf ps).length ≤ ps.length := by
  have key : ∀ i, i ≤ ps.length → NF (setOf (ps.take i)) ∧ (∀ x ∈ setOf (ps.take i), okX x) ∧ (setOf (ps.take i)).length ≤ i := by
    intro i
    induction i with
    | zero => intro _; exact ⟨nf_nil, fun x hx => by simp [setOf] at hx, by simp [setOf]⟩
    | succ i ih =>
      intro hi
      obtain ⟨a, b, c⟩ := ih (by omega)
      have hp := h _ (List.getElem_mem (h := (by omega : i < ps.length)))
      have hx : okX ⟨ps[i].lba, 1⟩ := ⟨hp.1, by simp, by simp only; omega⟩
      rw [List.take_succ_eq_append_getElem (by omega), setOf_snoc]
      have hall : ∀ x ∈ setOf (ps.take i) ++ [⟨ps[i].lba, 1⟩], okX x := fun x hx' => by
        rcases List.mem_append.1 hx' with q | q
        · exact b x q
        · obtain rfl : x = _ := by simpa using q
          exact hx
      have hm : (XSet.add ⟨((setOf (ps.take i)).length + 1 : Nat), setOf (ps.take i)⟩ [⟨ps[i].lba, 1⟩]).1.l = joinM (setOf (ps.take i) ++ [⟨ps[i].lba, 1⟩]) := by
        have := joinM_length (setOf (ps.take i) ++ [⟨ps[i].lba, 1⟩])
        rw [List.length_append, List.length_singleton] at this
        have hmay : may ⟨ps[i].lba, 1⟩ = true := by simp [may]; omega
        unfold XSet.add
        rw [if_neg (by simp [hmay]), if_neg (by simp), if_neg (by simp only; omega)]
      refine ⟨joinM_nf fun x hx' => (hall x hx').2.1, ?_, ?_⟩
      · rw [← hm]; exact add_okX b
      · have := joinM_length (setOf (ps.take i) ++ [⟨ps[i].lba, 1⟩])
        rw [List.length_append, List.length_singleton] at this
        omega
  have := key ps.length (Nat.le_refl _)
  rwa [List.take_length] at this
theorem add_setOf {ps : List Put} {p : Put} {m : Int} (h : 0 ≤ p.lba ∧ p.lba < 1048576) (hm : ((setOf ps).length : Int) < m) : XSet.add ⟨m, setOf ps⟩ [⟨p.lba, 1⟩] = (⟨m, setOf (ps ++ [p])⟩, 0) := by
  have := joinM_length (setOf ps ++ [⟨p.lba, 1⟩])
  rw [List.length_append, List.length_singleton] at this
  have hmay : may ⟨p.lba, 1⟩ = true := by simp [may]; omega
  unfold XSet.add
  rw [if_neg (by simp [hmay]), if_neg (by simp), if_neg (by simp only; omega), setOf_snoc]
theorem bufSet_eq {ps : List Put} (h : ∀ p ∈ ps, 0 ≤ p.lba ∧ p.lba < 1048576) : (ps.foldl (fun (S : XSet) x => (S.add [⟨x.lba, 1⟩]).1) ⟨(ps.length : Nat), []⟩).l = setOf ps := by
  have key : ∀ i, i ≤ ps.length → (ps.take i).foldl (fun (S : XSet) x => (S.add [⟨x.lba, 1⟩]).1) ⟨(ps.length : Nat), []⟩ = ⟨(ps.length : Nat), setOf (ps.take i)⟩ := by
    intro i
    induction i with
    | zero => intro _; rfl
    | succ i ih =>
      intro hi
      have h1 := (setOf_ok (ps.take i) fun p hp => h p (List.mem_of_mem_take hp)).2.2
      rw [List.length_take] at h1
      rw [List.take_succ_eq_append_getElem (by omega), List.foldl_append, ih (by omega)]
      simp only [List.foldl_cons, List.foldl_nil]
      rw [add_setOf (h _ (List.getElem_mem _)) (by omega)]
  have := key ps.length (Nat.le_refl _)
  rw [List.take_length] at this
  rw [this]
theorem rbuf_set {b : Nat} {u0 u1 : Value} {bl : SV} {ps : List Put} {F : Heap → Prop} {r : List HP} {w : World} {K : Option Addr → World → Prop} (hF : Mono F) (h : St (pool F :: r) w) (i0 : Nat) (hi0 : r[i0]? = some (objA (some ⟨b, 0, none⟩) [u0, u1, slv bl])) (hb : KPuts F bl ps) (hlb : ∀ p ∈ ps, 0 ≤ p.lba ∧ p.lba < 1048576) (hn : ps.length ≤ 2 ^ 19)
    (hk : ∀ F' ss bs w', Mono F' → (∀ h, F' h → F h) → KExts F' ss (setOf ps) → St (pool F' :: objA (some ⟨bs, 0, none⟩) [.int .i64 1048576, slv ss] :: r) w' → K (some ⟨bs, 0, none⟩) w') : c_scarpref11_Buf_Set (some ⟨b, 0, none⟩) w K := by
  refine scarpref11_Buf_Set_go ?_
  unfold f_scarpref11_Buf_Set
  have hbn := hb.n
  refine st_newF h fun w1 h1 => ?_
  refine loop_i (fun (x : Int) w' => ∃ i : Nat, x = (i : Int) ∧ i ≤ ps.length ∧ ∃ F' ss, Mono F' ∧ (∀ h, F' h → F h) ∧ KExts F' ss (setOf (ps.take i)) ∧ St (pool F' :: objA (some ⟨w.heap.size, 0, none⟩) [.int .i64 1048576, slv ss] :: r) w') (fun x _ => ps.length - x.toNat)
    ⟨0, rfl, by omega, F, ⟨none, 0, 0⟩, hF, fun _ h => h, KRow.nil, st_swap01 h1⟩ ?_
  rintro x w2 ⟨i, rfl, hi, F', ss, f1, f2, f3, h2⟩
  have cb : w2.cell? ((⟨b, 0, none⟩ : Addr).add 2) = some (.slice bl.a bl.n bl.c) := st_c1 h2 (i0 + 2) (by simpa using hi0) rfl
  rw [onP_some]
  refine ⟨bl, cb, bsplit_decide.2 ⟨fun hlt => ?_, fun hge => ?_⟩⟩
  · have hlt' : i < ps.length := by omega
    obtain ⟨ad, d, ha, c1, c2, c3⟩ := (hb.more f2).get (st_pool f1 h2 0 rfl) hlt'
    have hp := hlb _ (List.getElem_mem hlt')
    obtain ⟨o1, o2, o3⟩ := setOf_ok (ps.take i) fun p hp => hlb p (List.mem_of_mem_take hp)
    rw [List.length_take] at o3
    have e1 := inc_of hlt' (by omega)
    have hadd := add_setOf (ps := ps.take i) (p := ps[i]) (m := 1048576) hp (by omega)
    rw [← List.take_succ_eq_append_getElem hlt'] at hadd
    rw [onP_some]
    refine ⟨bl, cb, by omega, hlt, onP_i ha ⟨_, c1, st_newF h2 fun w3 h3 => ?_⟩⟩
    refine rset_add (b := w.heap.size) (o := 0) (S := ⟨1048576, setOf (ps.take i)⟩) (e := ⟨ps[i].lba, 1⟩) f1 (st_swap01 h3) 1 rfl rfl rfl f3 (by simp) (by simp only; omega) o2 o1 0 rfl fun F2 s2 w4 g1 g2 g3 h4 => ?_
    rw [hadd] at g3
    exact ⟨⟨i + 1, e1, by omega, F2, s2, g1, fun h hh => f2 _ (g2 _ hh), g3, h4.cut 1 (by simp)⟩, by simp only [e1]; omega⟩
  · obtain rfl : i = ps.length := by omega
    rw [List.take_length] at f3
    exact hk F' ss _ w2 f1 f2 f3 h2
/-! ### The book -/
theorem rowOn_sub {h : Heap} {s : SV} {vs : List Value} {lo m sz c : Nat} (hr : rowOn h s vs) (hl : vs.length = s.n * sz) (hm : lo + m ≤ s.n) (hc : s.n ≤ s.c) : rowOn h ⟨sub? s.a lo s.c sz, m, c⟩ ((vs.drop (lo * sz)).take (m * sz)) := by
  have hlen : ((vs.drop (lo * sz)).take (m * sz)).length = m * sz := by
    rw [List.length_take, List.length_drop, hl]
    have : (lo + m) * sz ≤ s.n * sz := Nat.mul_le_mul_right _ hm
    rw [Nat.add_mul] at this; omega
  constructor
  · intro hn
    simp only [sub?] at hn
    split at hn
    · rw [← List.length_eq_zero_iff, hlen]
      have : m = 0 := by omega
      rw [this]; simp
    · rw [Option.map_eq_none_iff] at hn
      rw [hr.1 hn]; simp
  · intro ad had i hi
    rw [hlen] at hi
    have hms : (lo + m) * sz ≤ s.n * sz := Nat.mul_le_mul_right _ hm
    rw [Nat.add_mul] at hms
    have hm0 : 0 < m := by
      rcases Nat.eq_zero_or_pos m with e | e
      · rw [e] at hi; simp at hi
      · exact e
    simp only [sub?] at had
    rw [if_neg (by omega)] at had
    cases ha : s.a with
    | none => rw [ha] at had; cases had
    | some a0 =>
      rw [ha] at had
      simp only [Option.map_some, Option.some.injEq] at had
      subst had
      rw [add_add]
      have := hr.2 a0 ha (lo * sz + i) (by omega)
      rw [this, List.getElem_take, List.getElem_drop]
theorem del_at {α : Type} : ∀ {l : List (Int × α)} {k : Nat} {h : Int}, (hk : k < l.length) → l[k].1 = h → (∀ j (hj : j < l.length), j < k → l[j].1 ≠ h) → del l h = l.take k ++ l.drop (k + 1)
  | x :: r, 0, h, _, e, _ => by
    simp only [List.getElem_cons_zero] at e
    simp [del, e]
  | x :: r, k + 1, h, hk, e, hn => by
    have h0 := hn 0 (by simp) (by omega)
    simp only [List.getElem_cons_zero] at h0
    simp only [List.getElem_cons_succ] at e
    have ih := del_at (l := r) (k := k) (by simpa using hk) e fun j hj hjk => by
      have := hn (j + 1) (by simpa using hj) (by omega)
      simpa using this
    simp only [del, List.take_succ_cons, List.drop_succ_cons, List.cons_append]
    rw [if_neg fun q => h0 q.symm, ih]
theorem rbook_close {b o : Nat} {cs : List Value} {B : Book} {sh st : SV} {k : Int} {F : Heap → Prop} {r : List HP} {w : World} {K : Int → World → Prop} (hF : Mono F) (h : St (pool F :: r) w) (i : Nat) (hi : r[i]? = some (objA (some ⟨b, 0, none⟩) cs)) (h1 : cs[o + 1]? = some (slv sh)) (h2 : cs[o + 2]? = some (slv st))
    (k1 : KInts F sh (B.times.map Prod.fst)) (k2 : KInts F st (B.times.map Prod.snd)) (hn : B.times.length ≤ 2 ^ 30)
    (hk : ∀ F' sh' st' w', Mono F' → (∀ h, F' h → F h) → KInts F' sh' ((B.close k).1.times.map Prod.fst) → KInts F' st' ((B.close k).1.times.map Prod.snd) → St (pool F' :: r.set i (objA (some ⟨b, 0, none⟩) ((cs.set (o + 1) (slv sh')).set (o + 2) (slv st')))) w' → K (B.close k).2 w') : c_scarpref11_Book_Close (some ⟨b, o, none⟩) k w K := by
  refine scarpref11_Book_Close_go ?_
  unfold f_scarpref11_Book_Close
  have ei : (pool F :: r)[i + 1]? = some (objA (some ⟨b, 0, none⟩) cs) := by simpa using hi
  have n1 := KInts.n k1
  have n2 := KInts.n k2
  rw [List.length_map] at n1 n2
  have hFw := st_pool hF h 0 rfl
  have hcl : B.close k = match lkp B.times k with | none => (B, 14) | some _ => ({ B with times := del B.times k }, 0) := rfl
  refine rplace_c (s := sh) (l := B.times.map Prod.fst) (st_c0 h (i + 1) ei h1) (KRow.on k1 _ hFw) (KInts.n k1) (by rw [List.length_map]; omega) (fun hno => ?_) fun j hj he hfirst => ?_
  · refine bsplit_decide.2 ⟨fun _ => ?_, fun q => absurd (by omega) q⟩
    have hl : lkp B.times k = none := lkp_none.2 hno
    rw [hl] at hcl
    rw [hcl] at hk
    refine hk F sh st w hF (fun _ h => h) k1 k2 ?_
    rw [set_self h1, set_self h2, set_self hi]; exact h
  · rw [List.length_map] at hj
    refine bsplit_decide.2 ⟨fun q => by omega, fun _ => ?_⟩
    have he' : B.times[j].1 = k := by rw [List.getElem_map] at he; exact he
    have hl : ∃ v, lkp B.times k = some v := by
      cases e : lkp B.times k with
      | none =>
        rw [lkp_none] at e
        exact absurd (List.mem_map.2 ⟨B.times[j], List.getElem_mem hj, he'⟩) e
      | some v => exact ⟨v, rfl⟩
    obtain ⟨v, hl⟩ := hl
    rw [hl] at hcl
    have hd := del_at hj he' fun q hq hqj => by
      have := hfirst q (by rw [List.length_map]; omega) hqj
      rwa [List.getElem_map] at this
    rw [hd] at hcl
    rw [hcl] at hk
    clear hcl hd hl hfirst
    have c1 := k1.cap
    have c2 := k2.cap
    have ew : IntKind.i64.wrap ((j : Int) + 1) = ((j + 1 : Nat) : Int) := inc_of hj (by omega)
    have r1 : ∀ {w' : World} (lo m c : Nat), F (hp w') → lo + m ≤ sh.n → rowOn (hp w') ⟨sub? sh.a lo sh.c 1, m, c⟩ ((((B.times.map Prod.fst).map intv).drop (lo * 1)).take (m * 1)) := fun lo m c hh hm => rowOn_sub (KRow.on k1 _ hh) (KRow.len k1) hm c1
    have r2 : ∀ {w' : World} (lo m c : Nat), F (hp w') → lo + m ≤ st.n → rowOn (hp w') ⟨sub? st.a lo st.c 1, m, c⟩ ((((B.times.map Prod.snd).map intv).drop (lo * 1)).take (m * 1)) := fun lo m c hh hm => rowOn_sub (KRow.on k2 _ hh) (KRow.len k2) hm c2
    have one1 : ∀ (l : List Int) (a b : Nat), (((l.map intv).drop a).take b).all Vc.one = true := fun l a b => by
      rw [List.all_eq_true]
      intro x hx
      obtain ⟨n, _, rfl⟩ := List.mem_map.1 (List.mem_of_mem_drop (List.mem_of_mem_take hx))
      rfl
    have len1 : ∀ (l : List Int) (lo m : Nat), lo + m ≤ l.length → (((l.map intv).drop (lo * 1)).take (m * 1)).length = m * 1 := fun l lo m hm => by
      simp only [List.length_take, List.length_drop, List.length_map]; omega
    rw [onP_some]
    refine ⟨sh, st_c1 h (i + 1) ei h1, by omega, by omega, by omega, ?_⟩
    have hA := st_nilF 1 h
    refine st_append hA 0 rfl (r1 0 j _ (st_pool hF hA 1 rfl) (by omega)) (len1 _ _ _ (by rw [List.length_map]; omega)) (by omega) (one1 _ _ _) (by simp only; omega) (by omega) rfl fun s5 w6 n5 h6 => ?_
    rw [onP_some]
    refine ⟨st, st_c1 h6 (i + 2) (by simpa using hi) h2, by omega, by omega, by omega, ?_⟩
    have hB := st_nilF 1 h6
    refine st_append hB 0 rfl (r2 0 j _ (st_pool hF hB 2 rfl) (by omega)) (len1 _ _ _ (by rw [List.length_map]; omega)) (by omega) (one1 _ _ _) (by simp only; omega) (by omega) rfl fun s9 w10 n9 h10 => ?_
    rw [onP_some, ew]
    refine ⟨sh, st_c1 h10 (i + 3) (by simpa using hi) h1, by omega, by omega, by omega, ?_⟩
    simp only [Int.toNat_natCast] at n5 n9
    refine st_append h10 1 rfl (r1 (j + 1) (sh.n - (j + 1)) _ (st_pool hF h10 2 rfl) (by omega)) (len1 _ _ _ (by rw [List.length_map]; omega)) (by omega) (one1 _ _ _) (by simp only; omega) (by omega) rfl fun s13 w14 n13 h14 => ?_
    rw [onP_some]
    refine st_s1 h14 (i + 3) (by simpa using hi) (lt_of_get h1) fun w16 h16 => ?_
    rw [onP_some]
    have hi16 : ∀ x, (r.set i x)[i]? = some x := fun x => List.getElem?_set_self (lt_of_get hi)
    have h2' : (cs.set (o + 1) (slv s13))[o + 2]? = some (slv st) := by rw [List.getElem?_set_ne (by omega)]; exact h2
    refine ⟨st, st_c1 h16 (i + 3) (by simp only [List.set_cons_succ, List.set_cons_zero, List.getElem?_cons_succ]; exact hi16 _) h2', by omega, by omega, by omega, ?_⟩
    refine st_append h16 0 rfl (r2 (j + 1) (st.n - (j + 1)) _ (st_pool hF h16 2 rfl) (by omega)) (len1 _ _ _ (by rw [List.length_map]; omega)) (by omega) (one1 _ _ _) (by simp only; omega) (by omega) rfl fun s19 w20 n19 h20 => ?_
    rw [onP_some]
    refine st_s1 h20 (i + 3) (by simp only [List.set_cons_succ, List.set_cons_zero, List.getElem?_cons_succ]; exact hi16 _) (by rw [List.length_set]; exact lt_of_get h2) fun w22 h22 => ?_
    have e1 : ∀ (l : List Int), l.length = B.times.length → ([] ++ ((l.map intv).drop (0 * 1)).take (j * 1)) ++ ((l.map intv).drop ((j + 1) * 1)).take ((B.times.length - (j + 1)) * 1) = (l.take j ++ l.drop (j + 1)).map intv := fun l hl => by
      simp only [List.drop_zero, List.nil_append, Nat.mul_one, List.map_append, List.map_take, List.map_drop]
      rw [List.take_of_length_le (l := (l.map intv).drop (j + 1)) (by rw [List.length_drop, List.length_map]; omega)]
    have h23 : St (ownS 1 s19 (((B.times.map Prod.snd).take j ++ (B.times.map Prod.snd).drop (j + 1)).map intv) :: ownS 1 s13 (((B.times.map Prod.fst).take j ++ (B.times.map Prod.fst).drop (j + 1)).map intv) :: pool F :: r.set i (objA (some ⟨b, 0, none⟩) ((cs.set (o + 1) (slv s13)).set (o + 2) (slv s19)))) w22 := by
      rw [n1] at h22
      rw [n2] at h22
      simp only [List.set_cons_succ, List.set_cons_zero, List.set_set] at h22
      have a1 := e1 (B.times.map Prod.fst) (by rw [List.length_map])
      have a2 := e1 (B.times.map Prod.snd) (by rw [List.length_map])
      rw [← a1, ← a2]
      exact h22
    obtain ⟨F2, f1, f2, f3, f4⟩ := freeze hF (st_swap12 h23)
    obtain ⟨F3, g1, g2, g3, g4⟩ := freeze f1 (st_swap01 f4)
    refine hk F3 s13 s19 w22 g1 (fun h hh => f2 _ (g2 _ hh)) ?_ ?_ g4
    · show KInts F3 s13 ((B.times.take j ++ B.times.drop (j + 1)).map Prod.fst)
      rw [List.map_append, List.map_take, List.map_drop]; exact g3
    · show KInts F3 s19 ((B.times.take j ++ B.times.drop (j + 1)).map Prod.snd)
      rw [List.map_append, List.map_take, List.map_drop]; exact KRow.more f3 g2
end Go.Proofs.YtbolgpjcmchfoaaGreat
