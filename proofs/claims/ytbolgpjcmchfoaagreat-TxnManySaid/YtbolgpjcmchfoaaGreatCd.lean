/- Contracts of the book of times. -/
import Derived.Test.YtbolgpjcmchfoaaGreatCc
import Derived.Test.YtbolgpjcmchfoaaGreatLk
namespace Go.Proofs.YtbolgpjcmchfoaaGreat
open Go Go.Vc Go.Sl Go.Mo
def BookOk (B : Book) : Prop := (∀ p ∈ B.times, i64ok p.1) ∧ B.times.length ≤ 2 ^ 40
theorem book_ptr {p : Option Addr} {B : Book} {R : HP} {w : World} (h : Sat (bookA p B * R) w) : ∃ b, p = some ⟨b, 0, none⟩ := by
  obtain ⟨r, h1⟩ := bookA_open h
  obtain ⟨b, t, rfl, _⟩ := objA_open h1
  exact ⟨b, rfl⟩
theorem keys_intv (l : List (Int × Int)) : (on2 intv l).map Prod.fst = l.map Prod.fst := by simp [on2, Function.comp_def]
theorem book_list {p : Option Addr} {B : Book} {R : HP} {w : World} {K : SV → World → Prop} (h : Sat (bookA p B * R) w) (ok : BookOk B)
    (hk : ∀ s w', s.n = B.times.length → Keep w w' → (∀ R, Sat R w → Sat (ownS 1 s ((sortI (B.times.map Prod.fst)).map (Value.int .i64)) * R) w') → K s w') : c_horizon_Book_List p w K := by
  obtain ⟨b, rfl⟩ := book_ptr h
  obtain ⟨r, h1⟩ := bookA_open h
  refine horizon_Book_List_go ?_
  unfold f_horizon_Book_List
  simp only [Option.isNone_some, bsplit, onP_some, add_mk]
  refine ⟨some r, (objA_cells h1).1 2, sorted_T r _ _ w _ (h1.eq (by ac_rfl : _ = mapA r (on2 intv B.times) * (objA (some ⟨b, 0, none⟩) [.int .i64 B.most, .int .i64 B.last, .map (some r)] * R))) (fun p hp => ?_) (by rw [length_on2]; exact ok.2) fun s w' hn kw hs => ?_⟩
  · obtain ⟨q, hq, rfl⟩ := List.mem_map.1 hp
    exact ok.1 q hq
  · rw [keys_intv] at hs
    exact hk _ _ (by rw [hn, length_on2]) kw hs
theorem book_count {p : Option Addr} {B : Book} {R : HP} {w : World} {K : Int → World → Prop} (h : Sat (bookA p B * R) w) (ok : BookOk B) (hk : ∀ w', Keep w w' → K (B.times.length : Nat) w') : c_horizon_Book_Count p w K := by
  refine horizon_Book_Count_go (book_list h ok fun s w' hn kw _ => ?_)
  rw [hn]; exact hk w' kw
theorem book_room {p : Option Addr} {B : Book} {R : HP} {w : World} {K : Int → World → Prop} (h : Sat (bookA p B * R) w) (hk : K B.most w) : c_horizon_Book_room p w K := by
  obtain ⟨b, rfl⟩ := book_ptr h
  obtain ⟨r, h1⟩ := bookA_open h
  exact room_some ((objA_cells h1).1 0) hk
theorem book_open {p : Option Addr} {B : Book} {at_ : Int} {R : HP} {w : World} {K : Int × Int → World → Prop} (h : Sat (bookA p B * R) w) (ok : BookOk B) (hl : 0 ≤ B.last ∧ B.last ≤ 2 ^ 40)
    (hk : ∀ w', Sat (bookA p (B.open at_).1 * R) w' → K (B.open at_).2 w') : c_horizon_Book_Open p at_ w K := by
  refine horizon_Book_Open_go (bsplit_decide.2 ⟨fun h0 => ?_, fun h0 => bsplit_decide.2 ⟨fun h1 => ?_, fun h1 => ?_⟩⟩)
  · have : B.open at_ = (B, (0, 1)) := by unfold Book.open; rw [if_pos (.inl h0)]
    rw [this] at hk; exact hk w h
  · have : B.open at_ = (B, (0, 1)) := by unfold Book.open; rw [if_pos (.inr h1)]
    rw [this] at hk; exact hk w h
  have hn : ¬ (at_ < 0 ∨ 1099511627776 < at_) := by omega
  refine book_count h ok fun w4 k4 => ?_
  refine book_room (k4.sat h) ?_
  refine bsplit_decide.2 ⟨fun h2 => ?_, fun h2 => ?_⟩
  · have : B.open at_ = (B, (0, 6)) := by unfold Book.open; rw [if_neg hn, if_pos h2]
    rw [this] at hk; exact hk _ (k4.sat h)
  have ho : B.open at_ = ({ B with last := B.last + 1, times := put B.times (B.last + 1) at_ }, (B.last + 1, 0)) := by unfold Book.open; rw [if_neg hn, if_neg h2]
  rw [ho] at hk
  obtain ⟨b, rfl⟩ := book_ptr h
  obtain ⟨r, h3⟩ := bookA_open (k4.sat h)
  simp only [onP_some, add_mk, Nat.zero_add]
  refine ⟨B.last, (objA_cells h3).1 1, objA_storeT (i := 1) h3 (by simp) fun w5 h5 => ?_⟩
  rw [wrap_of (by omega) (by omega)] at h5
  simp only [List.set_cons_succ, List.set_cons_zero] at h5
  rw [withW_iff]
  have h6 := h5.drew
  refine ⟨fun w' => w' = w5.drew, rfl, some r, fun w' e => ?_, B.last + 1, fun w' e => ?_, trivial, ?_⟩
  · subst e; exact (objA_cells h6).1 2
  · subst e; exact (objA_cells h6).1 1
  rw [onM_some]
  obtain ⟨es, cl, hm, _, h7⟩ := mapA_put (h6.eq (by ac_rfl : _ = mapA r (on2 intv B.times) * (objA (some ⟨b, 0, none⟩) [.int .i64 B.most, .int .i64 (B.last + 1), .map (some r)] * R))) (B.last + 1) (intv at_)
  refine ⟨es, cl, hm, gen_w h7 fun w7 h7 => ?_⟩
  rw [put_on2] at h7
  have h8 : Sat (objA (some ⟨b, 0, none⟩) [.int .i64 B.most, .int .i64 (B.last + 1), .map (some r)] * (mapA r (on2 intv (put B.times (B.last + 1) at_)) * R)) w7 := h7.eq (by ac_rfl)
  exact ⟨B.last + 1, (objA_cells h8).1 1, hk _ (bookA_close (B := { B with last := B.last + 1, times := put B.times (B.last + 1) at_ }) h8)⟩
theorem book_at {p : Option Addr} {B : Book} {i : Int} {R : HP} {w : World} {K : Int × Int → World → Prop} (h : Sat (bookA p B * R) w) (hk : K (match lkp B.times i with | none => (0, 14) | some t => (t, 0)) w) : c_horizon_Book_At p i w K := by
  obtain ⟨b, rfl⟩ := book_ptr h
  obtain ⟨r, h1⟩ := bookA_open h
  refine horizon_Book_At_go ?_
  unfold f_horizon_Book_At
  simp only [Option.isNone_some, bsplit, onP_some, add_mk]
  refine ⟨some r, (objA_cells h1).1 2, trivial, ?_⟩
  rw [onM_some]
  obtain ⟨es, hcl, hf, _⟩ := mapA_get h1.right
  refine ⟨es, hcl, (lkp B.times i).getD 0, ?_, ?_⟩
  · rw [hf, lkp_on2]; cases lkp B.times i <;> rfl
  · rw [hf, lkp_on2]
    cases e : lkp B.times i with
    | none => rw [e] at hk; exact hk
    | some t => rw [e] at hk; exact hk
theorem book_close {p : Option Addr} {B : Book} {i : Int} {R : HP} {w : World} {K : Int → World → Prop} (h : Sat (bookA p B * R) w) (hk : ∀ w', Sat (bookA p (B.close i).1 * R) w' → K (B.close i).2 w') : c_horizon_Book_Close p i w K := by
  refine horizon_Book_Close_go (book_at h ?_)
  obtain ⟨b, rfl⟩ := book_ptr h
  obtain ⟨r, h1⟩ := bookA_open h
  cases e : lkp B.times i with
  | none =>
    have : B.close i = (B, 14) := by unfold Book.close; rw [e]
    rw [this] at hk
    exact hk w h
  | some t =>
    have : B.close i = ({ B with times := del B.times i }, 0) := by unfold Book.close; rw [e]
    rw [this] at hk
    simp only [decide_true, Bool.not_true, bsplit, onP_some, add_mk]
    refine ⟨some r, (objA_cells h1).1 2, trivial, ?_⟩
    rw [onM_some]
    obtain ⟨es, cl, hm, h7⟩ := mapA_del (h1.eq (by ac_rfl : _ = mapA r (on2 intv B.times) * (objA (some ⟨b, 0, none⟩) [.int .i64 B.most, .int .i64 B.last, .map (some r)] * R))) i
    refine ⟨es, cl, hm, gen_w h7 fun w7 h7 => ?_⟩
    rw [del_on2] at h7
    exact hk _ (bookA_close (B := { B with times := del B.times i }) (h7.eq (by ac_rfl)))
end Go.Proofs.YtbolgpjcmchfoaaGreat
