/- What two rows of transactions, two histories, are told to be when they are the same; histories of the reference. -/
import Derived.Test.YtbolgpjcmchfoaaGreatUo
import Derived.Test.YtbolgpjcmchfoaaGreatE
import Derived.Test.YtbolgpjcmchfoaaGreatF3
namespace Go.Proofs.YtbolgpjcmchfoaaGreat
open Go Go.Vc Go.Sl Go.Mo
theorem samebatch_c {n : Int} {s t : SV} {l : List Tx} {w : World} {K : Bool → World → Prop} (hs : txsOn (hp w) s l) (ht : txsOn (hp w) t l) (hl : l.length ≤ 2 ^ 60 ∧ ∀ x ∈ l, x.puts.length ≤ 2 ^ 60) (hk : ∀ w', Keep w w' → K true w') : c_scarpref11_SameBatch n s n t w K := by
  refine scarpref11_SameBatch_go ?_
  unfold f_scarpref11_SameBatch
  refine st_newF (St.of1 (sat_whole w)) fun w1 h1 => st_newF h1 fun w2 h2 => ?_
  have k2 : Keep w w2 := Keep.whole (h2.take 2 rfl).left
  have hsn := hs.1
  have htn := ht.1
  refine ⟨_, st_c0 h2 1 rfl rfl, _, st_c0 h2 0 rfl rfl, bsplit_iff.2 ⟨fun e => by simp at e, fun _ => ⟨s, st_c1 h2 1 rfl rfl, t, st_c1 h2 0 rfl rfl, bsplit_iff.2 ⟨fun e => by simp [hsn, htn] at e, fun _ => ?_⟩⟩⟩⟩
  have c1 := st_c1 (o := 0) (k := 1) (v := .slice s.a s.n s.c) h2 1 rfl rfl
  have c2 := st_c1 (o := 0) (k := 1) (v := .slice t.a t.n t.c) h2 0 rfl rfl
  refine loop_i (fun (x : Bool × Int) w' => ∃ i : Nat, x = (false, (i : Int)) ∧ i ≤ l.length ∧ Keep w2 w') (fun x _ => l.length - x.2.toNat) ⟨0, rfl, by omega, Keep.refl _⟩ ?_
  rintro x w8 ⟨i, rfl, hi, k8⟩
  refine ⟨s, keep_cell k8 c1, bsplit_decide.2 ⟨fun hlt => ?_, fun hge => hk _ (k2.trans k8)⟩⟩
  have hlt' : i < l.length := by simp at hlt; omega
  have k9 := k8.trans (Keep.drew w8)
  rw [withW_iff]
  generalize w8.drew = w12 at k9 ⊢
  have kk := k2.trans k9
  obtain ⟨ad, d, ha, g1, g2, g3⟩ := (txsOn_le (keep_le kk) hs).2 i hlt'
  obtain ⟨ad', d', ha', g1', g2', g3'⟩ := (txsOn_le (keep_le kk) ht).2 i hlt'
  have q1 : ∀ w', Keep w12 w' → w'.cell? ((⟨w.heap.size, 0, none⟩ : Addr).add 1) = some (.slice s.a s.n s.c) := fun w' k => keep_cell (k9.trans k) c1
  have q2 : ∀ w', Keep w12 w' → w'.cell? ((⟨w1.heap.size, 0, none⟩ : Addr).add 1) = some (.slice t.a t.n t.c) := fun w' k => keep_cell (k9.trans k) c2
  have e1 := inc_of hlt' (by omega)
  refine ⟨Keep w12, Keep.refl _, s, q1, by omega, hlt, onP_i ha ⟨_, fun w' k => keep_cell k g1, t, q2, by omega, by simp at hlt ⊢; omega, onP_i ha' ⟨_, fun w' k => keep_cell k g1', bsplit_iff.2 ⟨fun e => by simp at e, fun _ => ⟨s, q1, by omega, hlt, onP_i ha ⟨d, fun w' k => keep_cell k g2, t, q2, by omega, by simp at hlt ⊢; omega, onP_i ha' ⟨d', fun w' k => keep_cell k g2', ?_⟩⟩⟩⟩⟩⟩⟩
  refine sameputs_c g3 g3' (hl.2 _ (List.getElem_mem hlt')) fun b w34 k34 hb => ⟨k34, bsplit_iff.2 ⟨fun e => ?_, fun _ => ⟨⟨i + 1, by rw [e1], by omega, k9.trans k34⟩, by simp only [e1]; omega⟩⟩⟩
  rw [hb.2 rfl] at e; cases e
section
variable {p : Nat} {M : Mgr} {F : Heap → Prop} {R : HP} {w : World}
end
end Go.Proofs.YtbolgpjcmchfoaaGreat
