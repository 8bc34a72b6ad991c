/- The document's own picture of all blocks: new, run, all. -/
import Derived.Test.YtbolgpjcmchfoaaGreatUs
namespace Go.Proofs.YtbolgpjcmchfoaaGreat
open Go Go.Vc Go.Sl Go.Mo
abbrev MO (p : Nat) (s : SV) : HP := objA (some ⟨p, 0, none⟩) [slv s]
abbrev MR (s : SV) (ds : List (SV × List UInt8)) : HP := ownS 1 s (ds.map fun x => slv x.1)
def MM (p : Nat) (F : Heap → Prop) (L : List (List UInt8)) (R : HP) (w : World) : Prop := Mono F ∧ ∃ s ds, ds.map Prod.snd = L ∧ (∀ x ∈ ds, Known F x) ∧ St [pool F, MO p s, MR s ds, R] w
def blankB (l : List UInt8) : Bool := l.all fun b => b == 0
theorem blank_c {s : SV} {l : List UInt8} {w : World} {K : Bool → World → Prop} (hs : bytesOn (hp w) s l) (hl : l.length ≤ 2 ^ 60) (hk : K (blankB l) w) : c_scarpref20_blank s w K := by
  refine scarpref20_blank_go ?_
  unfold f_scarpref20_blank
  have hsn := hs.1
  refine loop_i (fun (x : Bool × Int) w' => w' = w ∧ ∃ i : Nat, x.2 = i ∧ i ≤ l.length ∧ ∀ y ∈ l.take i, y = 0) (fun x _ => (l.length - x.2).toNat) ⟨rfl, 0, rfl, by omega, by simp⟩ ?_
  rintro ⟨y, x⟩ w2 ⟨rfl, i, hx, hi, hz⟩
  simp only at hx; subst hx
  dsimp only
  refine bsplit_decide.2 ⟨fun hlt => ?_, fun hge => ?_⟩
  · have hi' : i < l.length := by omega
    have hv : i < (bytesV l).length := by simpa [bytesV] using hi'
    cases ha : s.a with
    | none => have := hs.2.1 ha; rw [this] at hv; simp at hv
    | some ad =>
      have hc := hs.2.2 ad ha i hv
      have hc2 : w2.cell? (ad.add ((i : Int).toNat * 1)) = some (.int .u8 ((l[i].toNat : Nat) : Int)) := by
        rw [Int.toNat_natCast, Nat.mul_one]
        have : (bytesV l)[i] = .int .u8 ((l[i].toNat : Nat) : Int) := by simp [bytesV]
        rw [this] at hc; exact hc
      rw [onP_some]
      refine ⟨by omega, by omega, _, hc2, bsplit_iff.2 ⟨fun q => ?_, fun q => ?_⟩⟩
      · have : blankB l = false := by
          unfold blankB
          rw [List.all_eq_false]
          refine ⟨l[i], List.getElem_mem hi', fun e => ?_⟩
          have e' : l[i] = 0 := by simpa using e
          rw [e'] at q; simp at q
        rw [this] at hk; exact hk
      · have e1 : IntKind.i64.wrap ((i : Int) + 1) = ((i + 1 : Nat) : Int) := by rw [wrap_of (by omega) (by omega)]; omega
        have e0 : l[i] = 0 := by
          have : (l[i].toNat : Int) = 0 := by simpa using q
          exact UInt8.toNat_inj.1 (by simp; omega)
        rw [e1]
        refine ⟨⟨rfl, i + 1, rfl, by omega, fun z hz' => ?_⟩, by first | omega | (simp only; omega)⟩
        rw [List.take_succ_eq_append_getElem hi'] at hz'
        rcases List.mem_append.1 hz' with h | h
        · exact hz z h
        · simp only [List.mem_singleton] at h; rw [h, e0]
  · obtain rfl : i = l.length := by omega
    rw [List.take_length] at hz
    have : blankB l = true := by
      unfold blankB
      rw [List.all_eq_true]
      exact fun z hz' => by rw [hz z hz']; rfl
    rw [this] at hk; exact hk
theorem new20_c {F : Heap → Prop} {R : HP} {w : World} {K : Option Addr × Int → World → Prop} (hF : Mono F) (h : St [pool F, R] w) (hk : ∀ p w', MM p F (List.replicate 20 []) R w' → K (some ⟨p, 0, none⟩, 0) w') : c_scarpref20_New 20 w K := by
  refine scarpref20_New_go ?_
  unfold f_scarpref20_New
  refine bsplit_decide.2 ⟨fun q => by omega, fun _ => bsplit_decide.2 ⟨fun q => by omega, fun _ => ⟨by omega, by omega, by omega, by omega, ?_⟩⟩⟩
  rw [withW_iff]
  have h1 : St [ownS 1 ⟨some ⟨w.heap.size, 0, none⟩, 20, 20⟩ ((List.replicate 20 ((⟨none, 0, 0⟩ : SV), ([] : List UInt8))).map fun x => slv x.1), pool F, R] (w.alloc (.cells (zrow [.slice none 0 0] (20 : Int).toNat).toArray 30)) :=
    ownS_mk (sp := []) (h.alloc (.cells (zrow [.slice none 0 0] (20 : Int).toNat).toArray 30)) (by simp) (by omega) (by simp)
  generalize w.alloc (.cells (zrow [.slice none 0 0] (20 : Int).toNat).toArray 30) = w1 at h1 ⊢
  refine st_newF (vs := [slv ⟨some ⟨w.heap.size, 0, none⟩, 20, 20⟩]) h1 fun w2 h2 => hk _ w2 ⟨hF, ⟨some ⟨w.heap.size, 0, none⟩, 20, 20⟩, List.replicate 20 (⟨none, 0, 0⟩, []), by simp, fun x hx => ?_, h2.to (by simp only [bigS, List.foldr, mul_one']; ac_rfl)⟩
  rw [List.eq_of_mem_replicate hx]
  exact fun h _ => ⟨rfl, fun _ => rfl, fun ad e => by cases e⟩
theorem KPuts.getF {F : Heap → Prop} {s : SV} {l : List Put} {w : World} (h : KPuts F s l) (hh : F (hp w)) {i : Nat} (hi : i < l.length) : ∃ ad d, s.a = some ad ∧ Known F (d, l[i].data) ∧ ∀ w' : World, F (hp w') → w'.cell? (ad.add (i * 2)) = some (.int .i64 l[i].lba) ∧ w'.cell? ((ad.add (i * 2)).add 1) = some (.slice d.a d.n d.c) := by
  obtain ⟨xs, rfl, a, b⟩ := h
  have hi' : i < xs.length := by simpa using hi
  obtain ⟨ad, ha, _, _⟩ := KRow.get a (fun _ => rfl) (by omega) hh hi'
  refine ⟨ad, xs[i].1, ha, ?_, fun w' hw' => ?_⟩
  · rw [List.getElem_map]; exact b _ (List.getElem_mem hi')
  · obtain ⟨ad', ha', h0, hc⟩ := KRow.get a (fun _ => rfl) (by omega) hw' hi'
    rw [ha] at ha'; cases ha'
    exact ⟨by rw [List.getElem_map]; exact h0, hc 1 (by omega)⟩
/-! ### Run -/
def runL (L : List (List UInt8)) (l : List Put) : List (List UInt8) := l.foldl (fun L x => L.set x.lba.toNat x.data) L
structure RunOk (n : Nat) (l : List Put) : Prop where
  lba : ∀ x ∈ l, 0 ≤ x.lba ∧ x.lba < n
  len : ∀ x ∈ l, x.data.length = 40
  nd : (l.map Put.lba).Nodup
theorem runL_length (L : List (List UInt8)) (l : List Put) : (runL L l).length = L.length := by
  unfold runL
  induction l generalizing L with
  | nil => rfl
  | cons x r ih => rw [List.foldl_cons, ih, List.length_set]
theorem run20_c {p : Nat} {F : Heap → Prop} {L : List (List UInt8)} {R : HP} {s : SV} {l : List Put} {t : Int} {w : World} {K : Int → World → Prop} (h : MM p F L R w) (hl : KPuts F s l) (ok : RunOk L.length l) (hln : l.length ≤ 2 ^ 40)
    (hk : ∀ F' w', (∀ h, F' h → F h) → MM p F' (runL L l) R w' → K 0 w') : c_scarpref20_M_Run (some ⟨p, 0, none⟩) t s w K := by
  refine scarpref20_M_Run_go ?_
  unfold f_scarpref20_M_Run
  obtain ⟨hF, sL, ds, hds, hkn, h1⟩ := h
  have hsn := hl.n
  have hdl : ds.length = L.length := by rw [← hds, List.length_map]
  refine st_newF (vs := [.int .i64 t, slv s]) h1 fun w1 h2 => ?_
  generalize w.heap.size = bx at h2 ⊢
  have hrow := st_len h2 3 rfl
  rw [List.length_map] at hrow
  have hsl : sL.n = L.length := by omega
  refine loop_i (fun (x : Int × Int) w' => ∃ i : Nat, x.2 = i ∧ i ≤ l.length ∧ St [objA (some ⟨bx, 0, none⟩) [.int .i64 t, slv s], pool F, MO p sL, MR sL ds, R] w') (fun x _ => (l.length - x.2).toNat) ⟨0, rfl, by omega, h2⟩ ?_
  clear h2 h1
  rintro ⟨y, x⟩ w3 ⟨i, hx, hi, h⟩
  simp only at hx; subst hx
  dsimp only
  have e1 : IntKind.i64.wrap ((i : Int) + 1) = ((i + 1 : Nat) : Int) := by rw [wrap_of (by omega) (by omega)]; omega
  refine ⟨s, st_c1 h 0 rfl rfl, ?_⟩
  rw [hsn]
  refine bsplit_decide.2 ⟨fun hlt => ?_, fun hge => ?_⟩
  · have hi' : i < l.length := by omega
    refine st_drew h fun w6 h6 => ?_
    obtain ⟨ad, d, ha, c0, c1, hd⟩ := hl.get (st_pool hF h6 1 rfl) hi'
    have o := ok.lba _ (List.getElem_mem hi')
    refine ⟨s, st_c1 h6 0 rfl rfl, by omega, by omega, onP_i ha ⟨_, c0, bsplit_decide.2 ⟨fun q => by omega, fun _ => ?_⟩⟩⟩
    refine ⟨s, st_c1 h6 0 rfl rfl, by omega, by omega, onP_i ha ⟨_, c0, ?_⟩⟩
    rw [onP_some]
    refine ⟨sL, st_c0 h6 2 rfl rfl, bsplit_decide.2 ⟨fun q => by omega, fun _ => ?_⟩⟩
    rw [e1]
    exact ⟨⟨i + 1, rfl, by omega, h6⟩, by first | omega | (simp only; omega)⟩
  clear e1 hge hi
  refine loop_i (fun (x : Int × Int) w' => ∃ i : Nat, x.2 = i ∧ i ≤ l.length ∧ St [objA (some ⟨bx, 0, none⟩) [.int .i64 t, slv s], pool F, MO p sL, MR sL ds, R] w') (fun x _ => (l.length - x.2).toNat) ⟨0, rfl, by omega, h⟩ ?_
  clear h
  rintro ⟨y2, x⟩ w16 ⟨i, hx, hi, h⟩
  simp only at hx; subst hx
  dsimp only
  have e1 : IntKind.i64.wrap ((i : Int) + 1) = ((i + 1 : Nat) : Int) := by rw [wrap_of (by omega) (by omega)]; omega
  refine ⟨s, st_c1 h 0 rfl rfl, ?_⟩
  rw [hsn]
  refine bsplit_decide.2 ⟨fun hlt => ?_, fun hge => ?_⟩
  · have hi' : i < l.length := by omega
    obtain ⟨ad, d, ha, c0, c1, hd⟩ := hl.get (st_pool hF h 1 rfl) hi'
    have hdn : d.n = l[i].data.length := (hd _ (st_pool hF h 1 rfl)).1
    have o := ok.len _ (List.getElem_mem hi')
    refine ⟨s, st_c1 h 0 rfl rfl, by omega, by omega, onP_i ha ⟨d, c1, bsplit_iff.2 ⟨fun q => ?_, fun _ => ?_⟩⟩⟩
    · exfalso
      have : ((d.n : Nat) : Int) ≠ 40 := by simpa using q
      omega
    refine loop_i (fun (x : Int × Int) w' => ∃ k : Nat, x.2 = k ∧ k ≤ i ∧ St [objA (some ⟨bx, 0, none⟩) [.int .i64 t, slv s], pool F, MO p sL, MR sL ds, R] w') (fun x _ => (i - x.2).toNat) ⟨0, rfl, by omega, h⟩ ?_
    clear h c0 c1 hd hdn ha
    rintro ⟨y3, x⟩ w23 ⟨k, hx, hki, h⟩
    simp only at hx; subst hx
    dsimp only
    have e2 : IntKind.i64.wrap ((k : Int) + 1) = ((k + 1 : Nat) : Int) := by rw [wrap_of (by omega) (by omega)]; omega
    refine bsplit_decide.2 ⟨fun hlt2 => ?_, fun hge2 => ?_⟩
    · refine st_drew h fun w25 h25 => ?_
      have hk' : k < l.length := by omega
      obtain ⟨ad, d, ha, c0, c1, hd⟩ := hl.get (st_pool hF h25 1 rfl) hk'
      obtain ⟨ad', d', ha', c0', c1', hd'⟩ := hl.get (st_pool hF h25 1 rfl) hi'
      refine ⟨s, st_c1 h25 0 rfl rfl, by omega, by omega, onP_i ha ⟨_, c0, s, st_c1 h25 0 rfl rfl, by omega, by omega, onP_i ha' ⟨_, c0', bsplit_decide.2 ⟨fun q => ?_, fun _ => ?_⟩⟩⟩⟩
      · exfalso
        have := List.pairwise_iff_getElem.1 ok.nd k i (by simpa using hk') (by simpa using hi') (by omega)
        simp at this
        exact this q
      · rw [e2]
        exact ⟨⟨k + 1, rfl, by omega, h25⟩, by first | omega | (simp only; omega)⟩
    · rw [e1]
      exact ⟨⟨i + 1, rfl, by omega, h⟩, by first | omega | (simp only; omega)⟩
  clear e1 hge hi
  refine loop_i (fun (x : Int) w' => ∃ (i : Nat) (F' : Heap → Prop) (ds' : List (SV × List UInt8)), x = (i : Int) ∧ i ≤ l.length ∧ Mono F' ∧ (∀ h, F' h → F h) ∧ ds'.map Prod.snd = runL L (l.take i) ∧ (∀ x ∈ ds', Known F' x) ∧ St [objA (some ⟨bx, 0, none⟩) [.int .i64 t, slv s], pool F', MO p sL, MR sL ds', R] w') (fun x _ => (l.length - x).toNat)
    ⟨0, F, ds, rfl, by omega, hF, fun _ h => h, hds, hkn, h⟩ ?_
  clear h hkn hds hdl
  rintro x w33 ⟨i, F', ds', rfl, hi, hF', hsub, hds, hkn, h⟩
  have hdl : ds'.length = L.length := by
    have := congrArg List.length hds
    rw [List.length_map, runL_length] at this
    exact this
  have e1 : IntKind.i64.wrap ((i : Int) + 1) = ((i + 1 : Nat) : Int) := by rw [wrap_of (by omega) (by omega)]; omega
  refine ⟨s, st_c1 h 0 rfl rfl, ?_⟩
  rw [hsn]
  refine bsplit_decide.2 ⟨fun hlt => ?_, fun hge => ?_⟩
  · have hi' : i < l.length := by omega
    refine st_drew h fun w37 h37 => ?_
    have hlk := hl.more hsub
    obtain ⟨ad, d, ha, hd, hcell⟩ := hlk.getF (st_pool hF' h37 1 rfl) hi'
    have o := ok.lba _ (List.getElem_mem hi')
    have o2 := ok.len _ (List.getElem_mem hi')
    have hdn : d.n = 40 := by rw [(hd _ (st_pool hF' h37 1 rfl)).1]; exact o2
    have S : ∀ {w' : World}, F' (hp w') → w'.cell? ⟨p, 0, none⟩ = some (slv sL) → w'.cell? ((⟨bx, 0, none⟩ : Addr).add 1) = some (slv s) → w'.cell? ⟨p, 0, none⟩ = some (slv sL) ∧ w'.cell? ((⟨bx, 0, none⟩ : Addr).add 1) = some (slv s) ∧ w'.cell? (ad.add ((i : Int).toNat * 2)) = some (.int .i64 l[i].lba) ∧ w'.cell? ((ad.add ((i : Int).toNat * 2)).add 1) = some (.slice d.a d.n d.c) := fun {w'} hf a b => by
      obtain ⟨c, e⟩ := hcell w' hf
      exact ⟨a, b, c, e⟩
    refine ⟨fun w' => w'.cell? ⟨p, 0, none⟩ = some (slv sL) ∧ w'.cell? ((⟨bx, 0, none⟩ : Addr).add 1) = some (slv s) ∧ w'.cell? (ad.add ((i : Int).toNat * 2)) = some (.int .i64 l[i].lba) ∧ w'.cell? ((ad.add ((i : Int).toNat * 2)).add 1) = some (.slice d.a d.n d.c), S (st_pool hF' h37 1 rfl) (st_c0 h37 2 rfl rfl) (st_c1 h37 0 rfl rfl), ?_⟩
    rw [onP_some]
    refine ⟨sL, fun _ h => h.1, s, fun _ h => h.2.1, by omega, by omega, onP_i ha ⟨l[i].lba, fun _ h => h.2.2.1, s, fun _ h => h.2.1, by omega, by omega, onP_i ha ⟨d, fun _ h => h.2.2.2, ?_⟩⟩⟩
    refine st_emptyF 1 h37 fun w51 h51 => ⟨S (st_pool hF' h51 2 rfl) (st_c0 h51 3 rfl rfl) (st_c1 h51 1 rfl rfl), ?_⟩
    have hby : (bytesV l[i].data).length = d.n * 1 := by rw [hdn]; simp [bytesV, o2]
    refine st_append h51 0 rfl (hd _ (st_pool hF' h51 2 rfl)).2 hby (by omega) (by simp [bytesV, Vc.one]) (by simp only [hdn]; omega) (by omega) rfl fun s52 w53 hs52 h53 => ?_
    refine ⟨S (st_pool hF' h53 2 rfl) (st_c0 h53 3 rfl rfl) (st_c1 h53 1 rfl rfl), by omega, by omega, ?_⟩
    obtain ⟨k, hk2⟩ : ∃ k : Nat, l[i].lba = (k : Int) := ⟨l[i].lba.toNat, by omega⟩
    have hkl : k < ds'.length := by omega
    obtain ⟨b, hb, hst, hset⟩ := own_set1 (i := k) (h53.take 4 rfl) (by rw [List.length_map]; exact hkl)
    rw [hk2]
    refine onP_i hb ?_
    rw [add_mk, Int.toNat_natCast, Nat.mul_one, Nat.zero_add]
    refine ⟨hst, rfl, ?_⟩
    rw [withW_iff]
    have h55 := St.put (hset (.slice s52.a s52.n s52.c)) (l := [ownS 1 s52 ([] ++ bytesV l[i].data), objA (some ⟨bx, 0, none⟩) [.int .i64 t, slv s], pool F', MO p sL, MR sL ds', R]) rfl
    obtain ⟨F2, g1, g2, g3, g4⟩ := freezeB (s := s52) (l := l[i].data) (R := bigS [objA (some ⟨bx, 0, none⟩) [.int .i64 t, slv s], MO p sL, ownS 1 sL ((ds'.map fun x => slv x.1).set k (.slice s52.a s52.n s52.c)), R]) hF' (Sat.eq h55 (by simp only [bigS, List.foldr, List.set, mul_one', List.nil_append, byteRow]; ac_rfl))
    rw [e1]
    refine ⟨⟨i + 1, F2, ds'.set k (s52, l[i].data), rfl, by omega, g1, fun h hh => hsub h (g2 h hh), ?_, fun x hx => ?_, ?_⟩, by omega⟩
    · rw [List.map_set, hds, List.take_succ_eq_append_getElem hi']
      unfold runL
      rw [List.foldl_append, List.foldl_cons, List.foldl_nil, hk2, Int.toNat_natCast]
    · rcases List.mem_or_eq_of_mem_set hx with e | e
      · exact fun h hh => hkn x e h (g2 h hh)
      · subst e; exact g3
    · have : MR sL (ds'.set k (s52, l[i].data)) = ownS 1 sL ((ds'.map fun x => slv x.1).set k (.slice s52.a s52.n s52.c)) := by
        unfold MR; rw [List.map_set]; rfl
      rw [this]
      exact Sat.eq g4 (by simp only [bigS, List.foldr, mul_one']; ac_rfl)
  · obtain rfl : i = l.length := by omega
    rw [List.take_length] at hds
    exact hk F' w33 hsub ⟨hF', sL, ds', hds, hkn, h.cut 0 (by simp)⟩
/-! ### All -/
def allM : Int → List (List UInt8) → List Put
  | _, [] => []
  | k, d :: r => if blankB d then allM (k + 1) r else ⟨k, d⟩ :: allM (k + 1) r
theorem allM_append : ∀ (l m : List (List UInt8)) (k : Int), allM k (l ++ m) = allM k l ++ allM (k + (l.length : Nat)) m
  | [], m, k => by simp [allM]
  | d :: r, m, k => by
    have e : k + 1 + (r.length : Nat) = k + ((d :: r).length : Nat) := by simp; omega
    simp only [List.cons_append, allM]
    split
    · rw [allM_append r m, e]
    · rw [allM_append r m, e]; rfl
theorem all20_c {p : Nat} {F : Heap → Prop} {L : List (List UInt8)} {R : HP} {w : World} {K : SV → World → Prop} (h : MM p F L R w) (hL : L.length ≤ 2 ^ 20) (h60 : ∀ d ∈ L, d.length ≤ 2 ^ 60)
    (hk : ∀ F' s w', (∀ h, F' h → F h) → KPuts F' s (allM 0 L) → MM p F' L R w' → K s w') : c_scarpref20_M_All (some ⟨p, 0, none⟩) w K := by
  refine scarpref20_M_All_go ?_
  unfold f_scarpref20_M_All
  obtain ⟨hF, sL, ds, hds, hkn, h1⟩ := h
  have hdl : ds.length = L.length := by rw [← hds, List.length_map]
  have hrow := st_len h1 2 rfl
  rw [List.length_map] at hrow
  have h2 : St [pool F, MO p sL, MR sL ds, R, ownS 2 ⟨none, 0, 0⟩ []] w := (st_nilF 2 h1).to (by simp only [bigS, List.foldr, mul_one']; ac_rfl)
  refine loop_i (fun (x : SV × Int) w' => ∃ (i : Nat) (ys : List (SV × Put)), x.2 = i ∧ i ≤ L.length ∧ ys.length ≤ i ∧ ys.map Prod.snd = allM 0 (L.take i) ∧ (∀ y ∈ ys, Known F (y.1, y.2.data)) ∧ St [pool F, MO p sL, MR sL ds, R, ownS 2 x.1 (ys.flatMap putC)] w') (fun x _ => (L.length - x.2).toNat)
    ⟨0, [], rfl, by omega, by simp, rfl, by simp, h2⟩ ?_
  clear h1 h2
  rintro ⟨so, x⟩ w2 ⟨i, ys, hx, hi, hyl, hys, hyk, h⟩
  simp only at hx h; subst hx
  dsimp only
  have e1 : IntKind.i64.wrap ((i : Int) + 1) = ((i + 1 : Nat) : Int) := by rw [wrap_of (by omega) (by omega)]; omega
  rw [onP_some]
  refine ⟨sL, st_c0 h 1 rfl rfl, bsplit_decide.2 ⟨fun hlt => ?_, fun hge => ?_⟩⟩
  · have hi' : i < L.length := by omega
    have hid : i < ds.length := by omega
    have hdi : ds[i].2 = L[i] := by
      have : (ds.map Prod.snd)[i]'(by rw [List.length_map]; exact hid) = L[i] := by simp only [hds]
      simpa using this
    have hkd := hkn _ (List.getElem_mem hid)
    rw [onP_some]
    refine ⟨sL, st_c0 h 1 rfl rfl, by omega, by omega, ?_⟩
    have cell : ∀ {w' : World}, St [pool F, MO p sL, MR sL ds, R, ownS 2 so (ys.flatMap putC)] w' → ∀ {k : Addr → Prop}, (∀ b, w'.cell? ((⟨b, 0, none⟩ : Addr).add ((i : Int).toNat * 1)) = some (slv ds[i].1) → k ⟨b, 0, none⟩) → onP sL.a k := fun {w'} h' {k} hK => by
      refine st_own h' 2 rfl (by rw [List.length_map]; omega) fun b hb hc => hK b ?_
      rw [add_mk]
      refine hc _ _ ?_
      simp only [Int.toNat_natCast, Nat.mul_one, Nat.zero_add]
      rw [List.getElem?_map, List.getElem?_eq_getElem hid]; rfl
    refine cell h fun b hc => ⟨ds[i].1, hc, ?_⟩
    have hstep : allM 0 (L.take (i + 1)) = allM 0 (L.take i) ++ if blankB L[i] then [] else [⟨(i : Int), L[i]⟩] := by
      rw [List.take_succ_eq_append_getElem hi', allM_append]
      congr 1
      simp only [allM, List.length_take, Nat.min_eq_left hi]
      split <;> simp
    refine blank_c (hkd _ (st_pool hF h 0 rfl)) (by rw [hdi]; exact h60 _ (List.getElem_mem hi')) ?_
    rw [hdi]
    refine bsplit_iff.2 ⟨fun q => ?_, fun q => ?_⟩
    · have hbl : blankB L[i] = false := by simpa using q
      rw [hbl] at hstep
      rw [onP_some]
      refine ⟨sL, st_c0 h 1 rfl rfl, by omega, by omega, cell h fun b hc => ⟨ds[i].1, hc, ?_⟩⟩
      refine st_newF (vs := [.int .i64 i, slv ds[i].1]) h fun w16 h16 => ?_
      have hso := st_len h16 5 rfl
      rw [flat_len (sz := 2) (fun _ => rfl)] at hso
      refine st_push h16 5 rfl 0 rfl rfl rfl (by omega) (by omega) rfl fun s17 w18 hs17 h18 => ?_
      rw [e1]
      refine ⟨⟨i + 1, ys ++ [(ds[i].1, ⟨(i : Int), L[i]⟩)], rfl, by omega, by simp; omega, ?_, fun y hy => ?_, ?_⟩, by first | omega | (simp only; omega)⟩
      · rw [List.map_append, hys, hstep]; simp
      · rcases List.mem_append.1 hy with hy | hy
        · exact hyk y hy
        · simp only [List.mem_singleton] at hy; subst hy
          rw [← hdi]; exact hkd
      · have h19 := h18.cut 0 (by simp)
        rw [List.flatMap_append]
        exact h19
    · have hbl : blankB L[i] = true := by simpa using q
      rw [hbl] at hstep
      rw [e1]
      exact ⟨⟨i + 1, ys, rfl, by omega, by omega, by rw [hys, hstep]; simp, hyk, h⟩, by first | omega | (simp only; omega)⟩
  · obtain rfl : i = L.length := by omega
    rw [List.take_length] at hys
    obtain ⟨F', f1, f2, f3, f4⟩ := st_freeze hF h 3 rfl
    exact hk F' so w2 f2 ⟨ys, hys, f3, fun y hy h hh => hyk y hy h (f2 h hh)⟩ ⟨f1, sL, ds, hds, fun x hx h hh => hkn x hx h (f2 h hh), f4⟩
end Go.Proofs.YtbolgpjcmchfoaaGreat
