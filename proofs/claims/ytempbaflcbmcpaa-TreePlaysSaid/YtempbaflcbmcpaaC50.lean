/- slices.Clone at items. -/
import Derived.Test.YtempbaflcbmcpaaN
namespace Go.Proofs.Ytempbaflcbmcpaa
open Go.RowKit

set_option maxHeartbeats 400000 in
theorem clone50 (w : World) (g o m c : Nat) (news : List Value) (hl : news.length = m * 2) (hm : 0 < m) (hm2 : m ≤ 1000000)
    (hc : ∀ j u, news[j]? = some u → w.cell? ⟨g, o + j, none⟩ = some u) :
    Calls Try.prog 50 #[.slice (some ⟨g, o, none⟩) m c] w (CloneEnd 65 m news w) := by
  obtain ⟨i0, hi0, hz0, hz1, hz2⟩ := info_parts Try.info65
  have heq := fun (w : World) => Lib.run_eql_slice_nil (P := Try.prog) w 58 65 (some ⟨g, o, none⟩) m c 0 0 Try.underlying58
  obtain ⟨W, hW⟩ : ∃ W, W = w.alloc (.cells #[] 65 (0, 0)) := ⟨_, rfl⟩
  have hsz : W.heap.size = w.heap.size + 1 := by rw [hW]; simp
  have hap := fun (ty : TypeId) => run_append_grow (P := Try.prog) W 58 ty 65 i0 _ Try.underlying58 hi0 hz0 ⟨w.heap.size, 0, none⟩ 0 0 [] (by simp) (by simp) ⟨g, o, none⟩ m c news (by rw [hl, hz1])
    (fun j u hj => by rw [hW, Addr.add_lit]; exact cell_alloc_lt _ (hc j u hj)) (by omega) (by omega) (growslice_fits (by omega) (by rw [hz2]; omega))
  simp only [Nat.zero_add] at hap
  have hge := grownCap_ge W m 0 65
  have hle := grownCap_le_maxLen W m 0 65 (by unfold maxLen; omega)
  obtain ⟨cap, hcap⟩ : ∃ cap, cap = grownCap W m 0 65 := ⟨_, rfl⟩
  rw [← hcap] at hge hle
  simp only [← hcap] at hap
  obtain ⟨Z, hZ⟩ : ∃ Z : Array Value, Z = ([] : List Value).toArray ++ news.toArray ++ Builtin.zeroCells (Value.agg #[.string ⟨#[]⟩, .string ⟨#[]⟩]).cells (cap - m) := ⟨_, rfl⟩
  simp only [← hZ] at hap
  have lZ : Z.size = cap * 2 := by rw [hZ]; simp [size_zeroCells, Value.cells]; omega
  have tZ : Z.toList.take (m * 2) = news := by rw [hZ]; simp [← hl]
  have hfin : CloneEnd 65 m news w (.returned (.slice (some ⟨W.heap.size, 0, none⟩) m cap)) (W.drew.alloc (.cells Z 65 (0, 0))) := by
    refine ⟨_, rfl, ⟨hl, .inr ⟨W.heap.size, cap, Z, rfl, Nat.zero_le _, heap_alloc_new W.drew _, hge, hle, lZ, tZ⟩⟩, ?_, W.heap.size, rfl, by omega⟩
    rw [hW]
    exact ((Chg.alloc (S := fun _ => False) w _).trans ((Chg.drew (S := fun _ => False) _).trans (Chg.alloc (S := fun _ => False) _ _) (fun _ _ h => h)) (fun _ _ h => h)).below (fun _ _ h => h)
  have Hf := Lib.hid hfin
  have Hap := Lib.hid hap
  have HW := Lib.hid hW
  clear hfin hap hW hZ hcap lZ tZ hsz
  go_enter Try.func50, Try.ntmps50
  go_wp2_with (at_builtin; rw [← HW.out]; refine Lib.wpList_append_run _ rfl _ _ _ _ rfl _ _ rfl rfl _ _ (Hap.out _) ?_)
  go_ret
  exact Hf.out

end Go.Proofs.Ytempbaflcbmcpaa
