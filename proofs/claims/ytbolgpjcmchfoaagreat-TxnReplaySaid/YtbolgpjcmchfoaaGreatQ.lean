/- Contracts: pruning. -/
import Derived.Test.YtbolgpjcmchfoaaGreatX
namespace Go.Proofs.YtbolgpjcmchfoaaGreat
open Go Go.Vc Go.Sl Go.Mo
theorem set_kb (es : List En) (k : Int) (v : Value) : (setE es k v).map (fun e => (e.k, e.b)) = es.map fun e => (e.k, e.b) := by
  induction es with
  | nil => rfl
  | cons g r ih =>
    simp only [setE]
    split
    · rename_i h; simp [h]
    · simp only [List.map_cons, ih]
theorem kb_mem {es es' : List En} (h : es'.map (fun e => (e.k, e.b)) = es.map fun e => (e.k, e.b)) {f : En} (hf : f ∈ es') : ∃ g ∈ es, g.k = f.k ∧ g.b = f.b := by
  have : (f.k, f.b) ∈ es.map fun e => (e.k, e.b) := h ▸ List.mem_map.2 ⟨f, hf, rfl⟩
  obtain ⟨g, hg, e⟩ := List.mem_map.1 this
  simp only [Prod.mk.injEq] at e
  exact ⟨g, hg, e.1, e.2⟩
theorem kb_keys {es es' : List En} (h : es'.map (fun e => (e.k, e.b)) = es.map fun e => (e.k, e.b)) : es'.map En.k = es.map En.k := by
  have := congrArg (List.map Prod.fst) h
  simpa [Function.comp_def] using this
theorem k_inj {es : List En} (hn : (es.map En.k).Nodup) {e f : En} (he : e ∈ es) (hf : f ∈ es) (h : e.k = f.k) : e = f := by
  induction es with
  | nil => simp at he
  | cons g r ih =>
    simp only [List.map_cons, List.nodup_cons] at hn
    rcases List.mem_cons.1 he with h1 | h1 <;> rcases List.mem_cons.1 hf with h2 | h2
    · rw [h1, h2]
    · subst h1; exact absurd (h ▸ List.mem_map_of_mem (f := En.k) h2) hn.1
    · subst h2; exact absurd (h.symm ▸ List.mem_map_of_mem (f := En.k) h1) hn.1
    · exact ih hn.2 h1 h2
theorem b_inj {es : List En} (hn : (es.map En.b).Nodup) {e f : En} (he : e ∈ es) (hf : f ∈ es) (h : e.b = f.b) : e = f := by
  induction es with
  | nil => simp at he
  | cons g r ih =>
    simp only [List.map_cons, List.nodup_cons] at hn
    rcases List.mem_cons.1 he with h1 | h1 <;> rcases List.mem_cons.1 hf with h2 | h2
    · rw [h1, h2]
    · subst h1; exact absurd (h ▸ List.mem_map_of_mem (f := En.b) h2) hn.1
    · subst h2; exact absurd (h.symm ▸ List.mem_map_of_mem (f := En.b) h1) hn.1
    · exact ih hn.2 h1 h2
theorem assoc_eq : ∀ {l : List (Int × List Put)}, (l.map Prod.fst).Nodup → l = (l.map Prod.fst).map fun k => (k, versOf l k)
  | [], _ => rfl
  | p :: r, h => by
    simp only [List.map_cons, List.nodup_cons] at h
    have ih := assoc_eq h.2
    obtain ⟨k, v⟩ := p
    simp only [List.map_cons]
    congr 1
    · simp [versOf, lkp]
    · conv => lhs; rw [ih]
      refine List.map_congr_left fun j hj => ?_
      have : j ≠ k := fun e => h.1 (e ▸ hj)
      simp [versOf, lkp, this]
theorem versOf_put {l : List (Int × List Put)} {k j : Int} {y : List Put} : versOf (put l k y) j = if j = k then y else versOf l j := by
  unfold versOf
  rw [lkp_put]
  split <;> rfl
theorem versOf_on2 {l : List (Int × List Put)} {f : List Put → List Put} (hf : f [] = []) (k : Int) : versOf (on2 f l) k = f (versOf l k) := by
  unfold versOf
  rw [lkp_on2]
  cases lkp l k with
  | none => exact hf.symm
  | some v => rfl
theorem pruned_nil (h : Int) : pruned h [] = [] := by simp [pruned]
theorem pruned_eq (h : Int) (l : List Put) : pruned h l = l.drop ((upTo l h).length - 1) := rfl
/-- A row's end, of pairs. -/
theorem row_drop2 {s : SV} {vs : List Value} {R : HP} {w : World} {i : Nat} (h : Sat (ownS 2 s vs * R) w) (hi : i < s.n) (c : Nat) : rowOn (hp w) ⟨sub? s.a i s.c 2, s.n - i, c⟩ (vs.drop (i * 2)) := by
  have hl := ownS_length h
  have hcap := ownS_cap h
  obtain ⟨b, hb, hc⟩ := ownS_cell h (i := 0) (by omega)
  have hsub : sub? s.a i s.c 2 = some ⟨b, i * 2, none⟩ := by
    unfold sub?
    rw [if_neg (by omega), hb]
    simp
  rw [hsub]
  refine ⟨fun e => (by cases e), fun ad had j hj => ?_⟩
  cases had
  simp only [List.length_drop] at hj
  rw [add_mk]
  have := hc (i * 2 + j) (by omega)
  simp only [List.getElem_drop]
  exact this
theorem flat2_drop {α : Type} (f g : α → Value) : ∀ (xs : List α) (i : Nat), (xs.drop i).flatMap (fun x => [f x, g x]) = (xs.flatMap fun x => [f x, g x]).drop (i * 2)
  | xs, 0 => by simp
  | [], i + 1 => by simp
  | x :: r, i + 1 => by
    rw [List.drop_succ_cons, flat2_drop f g r i, List.flatMap_cons]
    rw [show (i + 1) * 2 = 2 + i * 2 from by omega, ← List.drop_drop]
    rfl
/-- The end of a row of versions, cloned: what it shares it keeps. -/
theorem clone_vers {s : SV} {l : List Put} {i : Nat} {R : HP} {w : World} {K : SV → World → Prop} (h : Sat (putsA s l * R) w) (hi : i < l.length) (hn : l.length ≤ 2 ^ 30) (hk : ∀ s' w', Sat (putsA s' (l.drop i) * R) w' → K s' w') :
    s.n = l.length ∧ s.n ≤ s.c ∧ c_slices_Clone_extmap_version_extmap_version ⟨sub? s.a i s.c 2, l.length - i, s.c - i⟩ w K := by
  have hsn : s.n = l.length := pairsA_n h
  obtain ⟨xs, hx, h1⟩ := pairsA_open (num := Put.lba) (A := fun s x => byteRow s x.data) h
  have hxl : xs.length = l.length := by rw [← hx]; simp
  refine ⟨hsn, ownS_cap h1, ?_⟩
  have hrow := row_drop2 h1 (i := i) (by omega) (s.c - i)
  rw [hsn] at hrow
  rw [← flat2_drop] at hrow
  have h2 : Sat (Sl.all (xs.drop i) (fun x => byteRow x.1 x.2.data) * R) w := by
    have : xs = xs.take i ++ xs.drop i := (List.take_append_drop i xs).symm
    rw [this, all_append] at h1
    exact (h1.right.eq (by ac_rfl : _ = Sl.all (xs.take i) (fun x : SV × Put => byteRow x.1 x.2.data) * (Sl.all (xs.drop i) (fun x => byteRow x.1 x.2.data) * R))).right
  have hfl := flat2_length (fun x : SV × Put => .int .i64 x.2.lba) (fun x => slv x.1) (xs.drop i)
  refine slices_Clone_extmap_version_extmap_version_go (clone_i (vs := (xs.drop i).flatMap fun x => [.int .i64 x.2.lba, slv x.1]) h2 hrow (by rw [hfl, List.length_drop, hxl]) (flat2_one _ _ _ (fun _ => rfl) fun _ => rfl) (by simp only; omega) (by omega) rfl (by omega) fun s' w' _ h3 => hk s' w' ?_)
  have := pairsA_close (num := Put.lba) (A := fun s x => byteRow s x.data) h3
  rw [List.map_drop, hx] at this
  exact this
theorem xmap_prune {B : Nat} {p : Option Addr} {M : XMap} {h : Int} {R : HP} {w : World} {K : Int → World → Prop} (hM : Sat (xmapA p M * R) w) (ok : XOk B M) (hB : B ≤ 2 ^ 20) (hk : ∀ w', Sat (xmapA p (M.prune h).1 * R) w' → K (M.prune h).2 w') : c_extmap_Map_Prune p h w K := by
  obtain ⟨b, rfl⟩ := xmap_ptr hM
  obtain ⟨r, h1⟩ := xmapA_open hM
  refine extmap_Map_Prune_go ?_
  unfold f_extmap_Map_Prune
  refine gone_some ((objA_cells h1).1 0) (bsplit_decide.2 ⟨fun h0 => by have := ok.1.1; omega, fun _ => ?_⟩)
  rw [onP_some, add_mk]
  refine ⟨some r, (objA_cells h1).1 1, ?_⟩
  rw [onM_some]
  have hnd := slmapA_nodup h1.right
  obtain ⟨es, cl, xs, mok, hxs, hkv, h2⟩ := slmapA_iterK (h1.eq (by ac_rfl : _ = slmapA putsA r M.vers * (objA (some ⟨b, 0, none⟩) [.int .i64 M.blocks, .map (some r), .int .i64 M.last] * R)))
  have hkeys : es.map En.k = M.vers.map Prod.fst := by rw [kvs_keys hkv, hxs]
  have hesl : es.length = M.vers.length := by have := congrArg List.length hkeys; simpa using this
  refine ⟨_, cl, h2.get, ?_⟩
  rw [withW_iff]
  have hit := h2.alloc (.mapIter (some r) cl #[] cl)
  change Sat (iterP w.heap.size r cl #[] * _) _ at hit
  generalize w.alloc (.mapIter (some r) cl #[] cl) = w43 at hit ⊢
  generalize w.heap.size = it at hit ⊢
  have hvl : ∀ k, (versOf M.vers k).length ≤ B := fun k => (vers_len ok k).1
  have hwle : ∀ (es' : List En) (seen : Array Nat), es'.length = M.vers.length → wsum (fun k => (upTo (versOf M.vers k) h).length - 1) es' seen ≤ 2 ^ 54 := fun es' seen hl => by
    refine Nat.le_trans (wsum_le _ es' seen (2 ^ 20) fun e he => ?_) ?_
    · have := upTo_length_le (versOf M.vers e.k) h
      have := hvl e.k
      omega
    · rw [hl]
      have := ok.2.1
      calc M.vers.length * 2 ^ 20 ≤ 2 ^ 34 * 2 ^ 20 := Nat.mul_le_mul_right _ (by omega)
        _ ≤ 2 ^ 54 := by decide
  refine loop_i (fun (x : Int) w' => ∃ (seen : Array Nat) (es' : List En) (xs' : List (Int × (SV × List Put))), MapOk es' cl ∧ kvs es' = on2 (fun x => slv x.1) xs' ∧ es'.map (fun e => (e.k, e.b)) = es.map (fun e => (e.k, e.b)) ∧
      (∀ e ∈ es, e.b ∈ seen → versOf (on2 Prod.snd xs') e.k = pruned h (versOf M.vers e.k)) ∧ (∀ e ∈ es, e.b ∉ seen → versOf (on2 Prod.snd xs') e.k = versOf M.vers e.k) ∧ x = (wsum (fun k => (upTo (versOf M.vers k) h).length - 1) es seen : Nat) ∧
      Sat (iterP it r cl seen * (mapE r es' cl * (Sl.all xs' (fun x => putsA x.2.1 x.2.2) * (objA (some ⟨b, 0, none⟩) [.int .i64 M.blocks, .map (some r), .int .i64 M.last] * R)))) w') (fun _ w' => match w'.heap[it]? with | some (.mapIter _ _ seen _) => left es seen | _ => 0)
    ⟨#[], es, xs, mok, hkv, rfl, by simp, fun e _ _ => by rw [hxs], by rw [wsum_none]; rfl, hit⟩ ?_
  rintro x w4 ⟨seen, es', xs', mok', hkv', hkb, hin, hout, rfl, hw⟩
  have hleft : (match w4.heap[it]? with | some (.mapIter _ _ seen _) => left es seen | _ => 0) = left es seen := by rw [hw.get]
  rw [hleft]
  have hV : ∀ {w' : World} {sn : Array Nat}, Sat (iterP it r cl sn * (mapE r es' cl * (Sl.all xs' (fun x => putsA x.2.1 x.2.2) * (objA (some ⟨b, 0, none⟩) [.int .i64 M.blocks, .map (some r), .int .i64 M.last] * R)))) w' → Sat (xmapA (some ⟨b, 0, none⟩) { M with vers := on2 Prod.snd xs' } * (iterP it r cl sn * R)) w' := fun {w' sn} hh => by
    have a1 : Sat (mapE r es' cl * (Sl.all xs' (fun x => putsA x.2.1 x.2.2) * (objA (some ⟨b, 0, none⟩) [.int .i64 M.blocks, .map (some r), .int .i64 M.last] * (iterP it r cl sn * R)))) w' := hh.eq (by ac_rfl)
    have a2 := mapA_close a1 mok'
    rw [hkv'] at a2
    have a3 := slmapA_close (A := putsA) a2
    exact xmapA_close (M := { M with vers := on2 Prod.snd xs' }) (r := r) (a3.eq (by ac_rfl))
  have hnd' : (xs'.map Prod.fst).Nodup := by
    have := mok'.1
    rw [kvs_keys hkv', keys_on2] at this
    exact this
  refine iter_step (enc := fun x : SV => .slice x.a x.n x.c) (es := es') hw (fun w' hw' => mapE_at hw') mok' (fun f hf => ?_) (fun f hf hfs t ht w' hw' => ?_) (fun hall w' hw' => ?_)
  · obtain ⟨s, _, _, hv⟩ := kvs_mem hkv' hf
    exact ⟨s, hv⟩
  · obtain ⟨g, hg, hgk, hgb⟩ := kb_mem hkb hf
    have hgs : g.b ∉ seen := hgb ▸ hfs
    have hnew : ∀ (w'' : World) (A : HP), Sat (iterP it r cl (seen.push f.b) * A) w'' → (match w''.heap[it]? with | some (.mapIter _ _ seen _) => left es seen | _ => 0) < left es seen := fun w'' A h'' => by
      rw [h''.get, ← hgb]; exact left_lt hg hgs
    have hp := wsum_push (fun k => (upTo (versOf M.vers k) h).length - 1) mok.2.1 hg hgs
    have h54 := hwle es (seen.push g.b) hesl
    rw [hgb] at hp h54
    rw [hgk] at hp
    have hvo : versOf (on2 Prod.snd xs') f.k = versOf M.vers f.k := by rw [← hgk]; exact hout g hg hgs
    have hll := hvl f.k
    refine at_c (hV hw') (by rw [hvo]; omega) ?_
    rw [hvo]
    have hul := upTo_length_le (versOf M.vers f.k) h
    obtain ⟨s, b', hm, hv⟩ := kvs_mem hkv' hf
    obtain rfl : t = s := by
      rw [ht] at hv; unfold slv at hv
      cases t; cases s; simp_all
    have hlk : lkp xs' f.k = some (t, b') := lkp_of_mem hnd' hm
    have hb' : b' = versOf M.vers f.k := by
      rw [← hvo]; unfold versOf; rw [lkp_on2, hlk]; rfl
    subst hb'
    have hpe := pruned_eq h (versOf M.vers f.k)
    generalize hL : versOf M.vers f.k = L at *
    have hinj : ∀ e ∈ es, e.b = f.b → e.k = f.k := fun e he hb => by
      rw [b_inj mok.2.1 he hg (hb.trans hgb.symm), hgk]
    have hinjk : ∀ e ∈ es, e.k = f.k → e.b = f.b := fun e he hk => by
      rw [k_inj mok.1 he hg (hk.trans hgk.symm), hgb]
    refine bsplit_decide.2 ⟨fun h0 => ?_, fun h0 => ?_⟩
    · obtain ⟨i, hi⟩ : ∃ i, (upTo L h).length = i + 1 := ⟨(upTo L h).length - 1, by omega⟩
      rw [hi] at h0 hpe hp ⊢
      have e1 : ((i + 1 : Nat) : Int) - 1 = (i : Int) := by omega
      rw [e1] at h0 ⊢
      simp only [Nat.add_sub_cancel] at hpe hp
      rw [withW_iff]
      have hd := hw'.drew
      rw [all_take hlk] at hd
      have h3 : Sat (putsA t L * (iterP it r cl (seen.push f.b) * (mapE r es' cl * (Sl.all (del xs' f.k) (fun x => putsA x.2.1 x.2.2) * (objA (some ⟨b, 0, none⟩) [.int .i64 M.blocks, .map (some r), .int .i64 M.last] * R))))) w'.drew := hd.eq (by ac_rfl)
      obtain ⟨a1, a2, a3⟩ := clone_vers (i := i) (K := fun s' w'' => _) h3 (by omega) (by omega) (fun s' w'' h4 => h4)
      refine ⟨fun w'' => w''.cell? ⟨b, 1, none⟩ = some (.map (some r)), (objA_cells (hw'.right.right.right.drew)).1 1, ?_⟩
      rw [onP_some, add_mk]
      refine ⟨some r, fun _ e => e, by omega, by omega, by omega, ?_⟩
      have e2 : (((t.n : Nat) : Int) : Int).toNat - ((i : Nat) : Int).toNat = L.length - i := by omega
      have e3 : ((i : Nat) : Int).toNat = i := by omega
      rw [e2, e3]
      refine (clone_vers (i := i) h3 (by omega) (by omega) (fun s' w'' h4 => ?_)).2.2
      have hE : hasE es' f.k = true := hasE_mem.2 (List.mem_map_of_mem (f := En.k) hf)
      refine ⟨(objA_cells h4.right.right.right.right).1 1, rfl, ?_⟩
      rw [onM_some]
      have h5 : Sat (mapE r es' cl * (iterP it r cl (seen.push f.b) * (putsA s' (L.drop i) * (Sl.all (del xs' f.k) (fun x => putsA x.2.1 x.2.2) * (objA (some ⟨b, 0, none⟩) [.int .i64 M.blocks, .map (some r), .int .i64 M.last] * R))))) w'' := h4.eq (by ac_rfl)
      refine ⟨es', cl, mapE_at h5, ?_⟩
      rw [withW_iff]
      have h6 := Sat.setObj h5 (.map (entries .i64 (putM es' cl f.k (.slice s'.a s'.n s'.c))) (putClock es' cl f.k))
      have e4 : putM es' cl f.k (.slice s'.a s'.n s'.c) = setE es' f.k (slv s') := by unfold putM; rw [if_pos hE]; rfl
      have e5 : putClock es' cl f.k = cl := by unfold putClock; rw [if_pos hE]
      have hok := mok'.put f.k (.slice s'.a s'.n s'.c)
      rw [e4, e5] at hok
      rw [e4, e5] at h6 ⊢
      have h7 : Sat (iterP it r cl (seen.push f.b) * (mapE r (setE es' f.k (slv s')) cl * (Sl.all (put xs' f.k (s', L.drop i)) (fun x => putsA x.2.1 x.2.2) * (objA (some ⟨b, 0, none⟩) [.int .i64 M.blocks, .map (some r), .int .i64 M.last] * R)))) (World.setObj w'' r (.map (entries .i64 (setE es' f.k (slv s'))) cl)) := by
        rw [all_put]
        have h6' : Sat (mapE r (setE es' f.k (slv s')) cl * (iterP it r cl (seen.push f.b) * (putsA s' (L.drop i) * (Sl.all (del xs' f.k) (fun x => putsA x.2.1 x.2.2) * (objA (some ⟨b, 0, none⟩) [.int .i64 M.blocks, .map (some r), .int .i64 M.last] * R))))) _ := h6
        exact h6'.eq (by ac_rfl)
      have hvp : ∀ k, versOf (on2 Prod.snd (put xs' f.k (s', L.drop i))) k = if k = f.k then L.drop i else versOf (on2 Prod.snd xs') k := fun k => by
        rw [← put_on2 (Prod.snd : SV × List Put → List Put), versOf_put]
      refine ⟨⟨seen.push f.b, setE es' f.k (slv s'), put xs' f.k (s', L.drop i), hok, ?_, (set_kb _ _ _).trans hkb, fun e he hb => ?_, fun e he hb => ?_, ?_, h7⟩, hnew _ _ h7⟩
      · rw [kvs_set _ _ _ hE, hkv', put_on2 (fun x : SV × List Put => slv x.1) xs' f.k (s', L.drop i)]
      · rw [hvp]
        by_cases hk : e.k = f.k
        · rw [if_pos hk, hk, hL, hpe]
        · rw [if_neg hk]
          refine hin e he ?_
          rcases Array.mem_push.1 hb with h' | h'
          · exact h'
          · exact absurd (hinj e he h') hk
      · rw [hvp, if_neg fun hk => hb (by rw [hinjk e he hk]; exact Array.mem_push_self)]
        exact hout e he fun h' => hb (Array.mem_push.2 (.inl h'))
      · rw [hp, wrap_of (by omega) (by omega)]; omega
    · have hi : (upTo L h).length - 1 = 0 := by omega
      rw [hi] at hpe hp
      refine ⟨⟨seen.push f.b, es', xs', mok', hkv', hkb, fun e he hb => ?_, fun e he hb => hout e he fun h' => hb (Array.mem_push.2 (.inl h')), by rw [hp]; rfl, hw'⟩, hnew _ _ hw'⟩
      rcases Array.mem_push.1 hb with h' | h'
      · exact hin e he h'
      · have hk := hinj e he h'
        rw [hk, hvo, hL, hpe]; rfl
  · have hall' : ∀ e ∈ es, e.b ∈ seen := fun e he => by
      obtain ⟨g, hg, _, hgb⟩ := kb_mem hkb.symm he
      rw [← hgb]; exact hall g hg
    have hfin := hV hw'
    have hkeys' : (on2 Prod.snd xs').map Prod.fst = M.vers.map Prod.fst := by rw [← kvs_keys hkv', kb_keys hkb, hkeys]
    have hveq : on2 Prod.snd xs' = on2 (pruned h) M.vers := by
      rw [assoc_eq (l := on2 Prod.snd xs') (by rw [hkeys']; exact hnd), assoc_eq (l := on2 (pruned h) M.vers) (by rw [keys_on2]; exact hnd), hkeys', keys_on2]
      refine List.map_congr_left fun k hk' => ?_
      rw [← hkeys] at hk'
      obtain ⟨e, he, rfl⟩ := List.mem_map.1 hk'
      rw [hin e he (hall' e he), versOf_on2 (pruned_nil h)]
    rw [hveq] at hfin
    have := hk w' (hfin.eq (by ac_rfl : _ = iterP it r cl seen * (xmapA (some ⟨b, 0, none⟩) (M.prune h).1 * R))).right
    rw [wsum_all _ hall', vers_sum hnd (fun l => (upTo l h).length - 1) hkeys]
    exact this
theorem mgr_prune {B : Nat} {p : Option Addr} {M : Mgr} {R : HP} {w : World} {K : Int → World → Prop} (h : Sat (mgrA p M * R) w) (ok : XOk B M.m) (hB : B ≤ 2 ^ 20) (hk : ∀ w', Sat (mgrA p M.prune.1 * R) w' → K M.prune.2 w') : c_txn_Manager_Prune p w K := by
  obtain ⟨mp, bk, r, qs, xs, hx, h1⟩ := mgrA_open h
  obtain ⟨a, b, c, rfl, rfl, rfl⟩ := mgr_ptr h1
  unfold mgrO at h1
  have h2 := h1.eq (mul_assoc' _ _ _)
  refine txn_Manager_Prune_go (mgone_c h2 (bsplit_iff.2 ⟨fun e => (by cases e), fun _ => ?_⟩))
  rw [withW_iff]
  have h3 := h2.drew
  generalize w.drew = w4 at h3 ⊢
  have hc := (objA_cells h3).1
  refine ⟨fun w' => w'.cell? ⟨a, 0, none⟩ = some (.pointer (some ⟨b, 0, none⟩)) ∧ w'.cell? ⟨a, 1, none⟩ = some (.pointer (some ⟨c, 0, none⟩)) ∧ w'.cell? ⟨a, 7, none⟩ = some (.int .i64 M.last), ⟨hc 0, hc 1, hc 7⟩, ?_⟩
  simp only [onP_some, add_mk, Nat.zero_add]
  refine ⟨_, fun w' e => e.1, _, fun w' e => e.2.1, _, fun w' e => e.2.2, ?_⟩
  refine book_low (R := objA (some ⟨a, 0, none⟩) (mcells (some ⟨b, 0, none⟩) (some ⟨c, 0, none⟩) r qs M) * (xmapA (some ⟨b, 0, none⟩) M.m * ((mapA r (on2 (fun x : Option Addr × Trn => .pointer x.1) xs) * (Sl.all xs (fun x => trA (some ⟨b, 0, none⟩) x.2.1 x.2.2) * ownS 1 qs (M.queue.map intv))) * R))) (h3.eq (by ac_rfl)) fun w' k' => ?_
  have h4 := k'.sat h3
  have hc4 := (objA_cells h4).1
  refine ⟨⟨hc4 0, hc4 1, hc4 7⟩, ?_⟩
  refine xmap_prune (R := objA (some ⟨a, 0, none⟩) (mcells (some ⟨b, 0, none⟩) (some ⟨c, 0, none⟩) r qs M) * (bookA (some ⟨c, 0, none⟩) M.book * ((mapA r (on2 (fun x : Option Addr × Trn => .pointer x.1) xs) * (Sl.all xs (fun x => trA (some ⟨b, 0, none⟩) x.2.1 x.2.2) * ownS 1 qs (M.queue.map intv))) * R))) (h4.eq (by ac_rfl)) ok hB fun w'' h5 => ?_
  have h6 := h5.eq (by ac_rfl : _ = objA (some ⟨a, 0, none⟩) (mcells (some ⟨b, 0, none⟩) (some ⟨c, 0, none⟩) r qs M) * (xmapA (some ⟨b, 0, none⟩) (M.m.prune (M.book.low M.last)).1 * (bookA (some ⟨c, 0, none⟩) M.book * ((mapA r (on2 (fun x : Option Addr × Trn => .pointer x.1) xs) * (Sl.all xs (fun x => trA (some ⟨b, 0, none⟩) x.2.1 x.2.2) * ownS 1 qs (M.queue.map intv))) * R))))
  have hc6 := (objA_cells h6).1
  refine ⟨⟨hc6 0, hc6 1, hc6 7⟩, hk w'' ?_⟩
  refine mgrA_close (M := M.prune.1) (mp := some ⟨b, 0, none⟩) (bk := some ⟨c, 0, none⟩) (r := r) (qs := qs) (xs := xs) ?_ hx
  unfold mgrO
  exact h6.eq (by unfold Mgr.prune mcells; ac_rfl)
theorem prune_ok {B : Nat} {M : XMap} (ok : XOk B M) (h : Int) : XOk B (M.prune h).1 := by
  refine ⟨ok.1, by simpa [XMap.prune, on2] using ok.2.1, fun q hq => ?_⟩
  obtain ⟨x, hx, rfl⟩ := List.mem_map.1 hq
  obtain ⟨a, b, c, d⟩ := ok.2.2 x hx
  have hu := upTo_length_le x.2 h
  simp only [pruned]
  refine ⟨a, by rw [List.length_drop]; omega, by rw [List.length_drop]; omega, fun y hy => d y (List.mem_of_mem_drop hy)⟩
theorem mgrOk_prune {N : Nat} {M : Mgr} (h : MgrOk N M) : MgrOk N M.prune.1 := by
  obtain ⟨B, I, hB⟩ := h
  exact ⟨B, ⟨prune_ok I.vers _, I.most, I.blast, I.keys, I.blen, I.all, I.q, I.qlen, I.out, I.num, I.last, I.given, I.rds⟩, hB⟩
theorem ok_prune {N : Nat} {p : Option Addr} {M : Mgr} {R : HP} {w : World} {K : Int → World → Prop} (h : Sat (mgrA p M * R) w) (ok : MgrOk N M) (hN : N ≤ 2 ^ 16) (hk : ∀ w', MgrOk N M.prune.1 → Sat (mgrA p M.prune.1 * R) w' → K M.prune.2 w') : c_txn_Manager_Prune p w K := by
  obtain ⟨B, I, hB⟩ := ok
  exact mgr_prune (B := B) h I.vers (by omega) fun w' h' => hk w' (mgrOk_prune ⟨B, I, hB⟩) h'
end Go.Proofs.YtbolgpjcmchfoaaGreat
