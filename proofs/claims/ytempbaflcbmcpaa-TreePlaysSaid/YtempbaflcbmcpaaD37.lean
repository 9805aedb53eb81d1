/- slices.Delete of one item. -/
import Derived.Test.YtempbaflcbmcpaaN
namespace Go.Proofs.Ytempbaflcbmcpaa
open Go.RowKit

theorem zero37 : (Builtin.zeroCells (Value.agg #[.string ⟨#[]⟩, .string ⟨#[]⟩]).cells 1).toList = [.string ⟨#[]⟩, .string ⟨#[]⟩] := by kernel_rfl


set_option maxRecDepth 100000 in
set_option maxHeartbeats 400000 in
theorem delete37_in (w : World) (g m cap i : Nat) (cur : Array Value) (hg : w.heap[g]? = some (.cells cur 65 (0, 0)))
    (hi : i ≤ m) (hn : m < cap) (hc : cap ≤ maxLen) (hcur : cur.size = cap * 2) (h2 : ∀ v ∈ cur.toList.take ((m + 1) * 2), v.oneCell' = true) :
    Calls Try.prog 37 #[.slice (some ⟨g, 0, none⟩) (m + 1) cap, .int .i64 i, .int .i64 ((i : Int) + 1)] w (DeleteIn g m cap i 65 cur w) := by
  obtain ⟨i0, hi0, hz0, hz1, hz2⟩ := info_parts Try.info65
  unfold maxLen at hc
  obtain ⟨C1, hC1⟩ : ∃ C1, C1 = (cur.toList.drop ((i + 1) * 2)).take ((m - i) * 2) := ⟨_, rfl⟩
  have lC1 : C1.length = (m - i) * 2 := by rw [hC1]; simp; omega
  obtain ⟨X1, hX1⟩ : ∃ X1, X1 = cur.toList.take (i * 2) ++ C1 ++ cur.toList.drop (i * 2 + C1.length) := ⟨_, rfl⟩
  have lX1 : X1.length = cap * 2 := by rw [hX1]; simp; omega
  obtain ⟨X2, hX2⟩ : ∃ X2, X2 = X1.take (m * 2) ++ (Builtin.zeroCells (Value.agg #[.string ⟨#[]⟩, .string ⟨#[]⟩]).cells 1).toList ++ X1.drop (m * 2 + 1 * (Value.agg #[.string ⟨#[]⟩, .string ⟨#[]⟩]).cells.size) := ⟨_, rfl⟩
  have lX2 : X2.length = cap * 2 := by rw [hX2]; simp [size_zeroCells, Value.cells]; omega
  have tX2 : X2.take (m * 2) = delCells (cur.toList.take ((m + 1) * 2)) i := by
    have e1 : (cur.toList.take (i * 2) ++ C1).length = m * 2 := by simp; omega
    rw [hX2, List.append_assoc, List.take_append_of_le_length (by simp; omega), List.take_take, Nat.min_self, hX1, ← e1, List.take_left]
    unfold delCells
    rw [List.take_take, hC1, List.drop_take, Nat.min_eq_left (by omega)]
    congr 2; omega
  obtain ⟨W1, hW1⟩ : ∃ W1, W1 = w.drew.setRow g X1.toArray := ⟨_, rfl⟩
  have hap : ∀ ty o c', (o = (i + 1) * 2 ∨ m - i = 0) → (Builtin.append_ #[58, 58] ty #[.slice (some ⟨g, 0, none⟩) i cap, .slice (some ⟨g, o, none⟩) (m - i) c']).run Try.prog w.drew = .ok (.slice (some ⟨g, 0, none⟩) m cap) W1 := by
    intro ty o c' ho
    have := run_append_room (P := Try.prog) w.drew 58 ty 65 i0 Try.underlying58 hi0 g i cap cur hg ⟨g, o, none⟩ (m - i) c' C1 (by rw [lC1, hz1])
      (fun j u hj => by
        rcases ho with rfl | ho
        · rw [Addr.add_lit, World.cell?_drew, cell_at hg]
          rw [hC1, List.getElem?_take] at hj
          split at hj
          · simpa using hj
          · cases hj
        · rw [List.eq_nil_of_length_eq_zero (by rw [lC1, ho] : C1.length = 0)] at hj; cases hj)
      (fun v hv => by
        refine h2 v ?_
        rw [hC1, show (m - i) * 2 = (m + 1) * 2 - (i + 1) * 2 by omega, ← List.drop_take] at hv
        exact List.mem_of_mem_drop hv) (by omega) (by rw [lC1, hz1, hcur]; omega)
    rw [show i + (m - i) = m by omega, hz1] at this
    rw [this, hW1, hX1]
  have hg1 : W1.heap[g]? = some (.cells X1.toArray 65 (0, 0)) := by rw [hW1]; exact setRow_heap w.drew g cur _ 65 _ hg
  have hch : Chg (· = g) w W1 := by rw [hW1]; exact (Chg.drew _ _).trans (Chg.setRow (S := (· = g)) (fun _ => rfl) _) (fun _ _ h => h)
  have hcl := fun ty => run_clear_cells (P := Try.prog) W1 58 ty 65 i0 _ Try.underlying58 hi0 hz0 g (m * 2) 1 (cap - m) X1.toArray 65 hg1 (by decide) (by simp [Value.cells]; omega) (by rw [zero37]; simp [Value.oneCell'])
  simp only [← hX2] at hcl
  have hfin : DeleteIn g m cap i 65 cur w (.returned (.slice (some ⟨g, 0, none⟩) m cap)) (W1.setRow g X2.toArray) :=
    ⟨rfl, hch.trans (Chg.setRow (S := (· = g)) (fun _ => rfl) _) (fun _ _ h => h), X2.toArray, setRow_heap W1 g _ _ 65 _ hg1, by simpa using lX2, by simpa using tX2⟩
  have Hf := Lib.hid hfin
  have Hap := Lib.hid hap
  have Hcl := Lib.hid hcl
  clear hW1 hfin hap hcl hX2 hX1 lX1 lX2 tX2 lC1 hC1 hch hg1 h2
  have hne : ((i : Int) == (i : Int) + 1) = false := by simp; omega
  have hb1 : (0 : Int) ≤ (i : Int) + 1 := by omega
  have hb2 : (i : Int) + 1 ≤ (m : Int) + 1 := by omega
  have hb4 : (i : Int) ≤ (m : Int) + 1 := by omega
  have htn : ((i : Int) + 1).toNat = i + 1 := by omega
  have hb5 : i ≤ cap := by omega
  by_cases hci : cap = i + 1
  · have hmi : m = i := by omega
    subst hmi
    subst hci
    have Hap2 := fun ty => Hap.out ty 0 0 (.inr (by omega))
    simp only [Nat.sub_self] at Hap2
    have Hap3 := Lib.hid Hap2; clear Hap2
    have hcl := Hcl.out
    simp only [Nat.add_sub_cancel_left] at hcl
    go_enter Try.func37, Try.ntmps37
    go_wp2_with fail
    go_region_law (refine step_append_run rfl _ _ 58 58 rfl _ _ (by simp [Act.eval, Act.put]) (by simp [Act.eval, Act.put]) (Hap3.out _) ?_)
    go_wp2_with fail
    go_ret
    exact Hf.out
  · have hcl := Hcl.out
    go_enter Try.func37, Try.ntmps37
    go_wp2_with fail
    go_region_law (refine step_append_run rfl _ _ 58 58 rfl _ _ (by simp [Act.eval, Act.put]) (by simp [Act.eval, Act.put]) (Hap.out _ _ (cap - (i + 1)) (.inl rfl)) ?_)
    go_wp2_with fail
    go_ret
    exact Hf.out

/-- slices.Delete(s, i, i+1), s a row of its own. -/
theorem delete37 (w : World) (n i : Nat) (v : Value) (xs : List Value)
   (hown : w.ownsRow 0 65 2 v (n + 1) xs) (hi : i ≤ n) (h2 : ∀ v ∈ xs, v.oneCell' = true) :
    Calls Try.prog 37 #[v, .int .i64 i, .int .i64 ((i : Int) + 1)] w (DeleteEnd 65 n i v xs w) := by
  rcases hown.2 with ⟨rfl, h⟩ | ⟨g, cap, cur, rfl, hb, hg, hnc, hcm, hcs, htake⟩
  · omega
  · refine (delete37_in w g n cap i cur hg hi (by omega) hcm hcs (by rw [htake]; exact h2)).mono ?_
    rintro e w' ⟨rfl, hch, cur', hg', hc', ht'⟩
    have hx : xs.length = (n + 1) * 2 := hown.1
    refine ⟨_, rfl, ⟨by unfold delCells; simp; omega, .inr ⟨g, cap, cur', rfl, hb, hg', by omega, hcm, hc', by rw [ht', htake]⟩⟩, hch.mono (fun k _ h => by subst h; rfl), rfl⟩

end Go.Proofs.Ytempbaflcbmcpaa
