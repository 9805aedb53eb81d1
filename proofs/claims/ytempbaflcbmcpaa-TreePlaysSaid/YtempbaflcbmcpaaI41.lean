/- slices.Insert at a row of items, one item in a block of its own. -/
import Derived.Test.YtempbaflcbmcpaaN
namespace Go.Proofs.Ytempbaflcbmcpaa
open Go.RowKit

theorem overlaps46 (w : World) (s g o la ca lb cb : Nat) (cA cB : Array Value) (hs : w.heap[s]? = some (.cells cA 54 (0, 0))) (hg : w.heap[g]? = some (.cells cB 54 (0, 0))) (hne : s ≠ g) (hk : 0 < cB.size) :
    (callFunc 46 #[.slice (some ⟨s, 0, none⟩) la ca, .slice (some ⟨g, o, none⟩) lb cb]).run Try.prog w = .ok (.value (.bool false)) w := by
  obtain ⟨i0, hi, hz0, hz1, hz2⟩ := info_parts Try.info54
  rw [run_callFunc_extern Try.func46 (by kernel_rfl) (by kernel_rfl) (by kernel_rfl) (e := Extern.SlicesOverlaps.overlaps #[55, 55] #[4]) (by kernel_rfl),
      Lib.run_overlaps_apart w 55 4 54 Try.underlying55 2 (fun w => by simp [sizeOf, typeInfo, hi, hz1]) ⟨s, 0, none⟩ ⟨g, o, none⟩ la ca lb cb hne 54 54 cA.size cB.size (by simp [World.shape?, hs]) (by simp [World.shape?, hg]) (by omega) (by simp [World.frozen?, hs]) (by simp [World.frozen?, hs])]
  rfl


set_option maxRecDepth 100000 in
set_option maxHeartbeats 400000 in
theorem insert41_room (w : World) (g n cap i s : Nat) (cur : Array Value) (c0 c1 : Value)
   (hg : w.heap[g]? = some (.cells cur 54 (0, 0))) (hs : w.heap[s]? = some (.cells #[c0, c1] 54 (0, 0)))
   (hi : i < n) (hn : n < cap) (hc : cap ≤ maxLen) (hcur : cur.size = cap * 2) (hsg : s ≠ g) (h0 : c0.oneCell' = true) (h1 : c1.oneCell' = true) (h2 : ∀ v ∈ cur.toList.take (n * 2), v.oneCell' = true) :
    Calls Try.prog 41 #[.slice (some ⟨g, 0, none⟩) n cap, .int .i64 i, .slice (some ⟨s, 0, none⟩) 1 1] w (InsertRoom g n cap i 54 cur c0 c1 w) := by
  unfold maxLen at hc
  obtain ⟨i0, hi0, hz0, hz1, hz2⟩ := info_parts Try.info54
  have hov := overlaps46 w s g ((i+1)*2) 1 1 (n-i) (cap-(i+1)) _ _ hs hg hsg (by omega)
  obtain ⟨C1, hC1⟩ : ∃ C1, C1 = (cur.toList.drop (i * 2)).take ((n - i) * 2) := ⟨_, rfl⟩
  have lC1 : C1.length = (n - i) * 2 := by rw [hC1]; simp; omega
  obtain ⟨X1, hX1⟩ : ∃ X1, X1 = cur.toList.take ((i + 1) * 2) ++ C1 ++ cur.toList.drop ((i + 1) * 2 + C1.length) := ⟨_, rfl⟩
  obtain ⟨X2, hX2⟩ : ∃ X2, X2 = X1.take (i * 2) ++ [c0, c1] ++ X1.drop (i * 2 + 2) := ⟨_, rfl⟩
  have lX1 : X1.length = cap * 2 := by rw [hX1]; simp; omega
  have hsh := shift_list cur.toList C1 X1 X2 i n cap c0 c1 hi hn (by simpa using hcur) hC1 hX1 hX2
  have hcp1 : ∀ ty, (Builtin.copy_ #[55, 55] ty #[.slice (some ⟨g, (i + 1) * 2, none⟩) (n - i) (cap - (i + 1)), .slice (some ⟨g, i * 2, none⟩) (n + 1 - i) (cap - i)]).run Try.prog w.drew = .ok (goInt ((n - i : Nat) : Int)) (w.drew.setRow g X1.toArray) := by
    intro ty
    rw [hX1]
    refine run_copy_cells w.drew 55 55 ty 54 i0 g ((i + 1) * 2) (n - i) (cap - (i + 1)) ⟨g, i * 2, none⟩ (n + 1 - i) (cap - i) (n - i) cur 54 C1 Try.underlying55 hi0 hg ?_ ?_ ?_ ?_ ?_
    · simp only [Nat.min_def]; split <;> omega
    · rw [lC1, hz1]
    · intro j v hj
      rw [hC1, List.getElem?_take] at hj
      split at hj
      · rw [Addr.add_lit, World.cell?_drew, cell_of_row w g _ cur 54 (0, 0) hg]
        simpa using hj
      · cases hj
    · rw [lC1, hcur]; omega
    · intro v hv
      refine h2 v ?_
      rw [hC1, show (n - i) * 2 = n * 2 - i * 2 by omega, ← List.drop_take] at hv
      exact List.mem_of_mem_drop hv
  obtain ⟨W1, hW1⟩ : ∃ W1, W1 = w.drew.setRow g X1.toArray := ⟨_, rfl⟩
  have hg1 : W1.heap[g]? = some (.cells X1.toArray 54 (0, 0)) := by rw [hW1]; exact setRow_heap w.drew g cur _ 54 _ hg
  have hs1 : W1.heap[s]? = some (.cells #[c0, c1] 54 (0, 0)) := by rw [hW1, setRow_other _ _ _ _ hsg]; exact hs
  have hch : Chg (· = g) w W1 := by rw [hW1]; exact (Chg.drew _ _).trans (Chg.setRow (S := (· = g)) (fun _ => rfl) _) (fun _ _ h => h)
  have hcp2 : ∀ ty, (Builtin.copy_ #[55, 55] ty #[.slice (some ⟨g, i * 2, none⟩) (n + 1 - i) (cap - i), .slice (some ⟨s, 0, none⟩) 1 1]).run Try.prog W1 = .ok (goInt 1) (W1.setRow g X2.toArray) := by
    intro ty
    rw [hX2]
    refine run_copy_cells W1 55 55 ty 54 i0 g (i * 2) (n + 1 - i) (cap - i) ⟨s, 0, none⟩ 1 1 1 X1.toArray 54 [c0, c1] Try.underlying55 hi0 hg1 ?_ ?_ ?_ ?_ ?_
    · simp only [Nat.min_def]; split <;> omega
    · rw [hz1]; rfl
    · intro j v hj
      rw [Addr.add_lit, cell_of_row W1 s _ _ 54 (0, 0) hs1]
      simpa using hj
    · simp; omega
    · simp [h0, h1]
  have Hsh := Lib.hid hsh
  rw [← hW1] at hcp1
  have Hc := Lib.hid hch
  clear hX1 hX2 hC1 hW1 hsh hch lC1 lX1 hcur h2
  have hw1 : IntKind.i64.wrap ((i : Int) + 1) = (i : Int) + 1 := IntWalk.i64_in _ (by omega)
  have hb1 : (0 : Int) ≤ (i : Int) + 1 := by omega
  have hb2 : (i : Int) + 1 ≤ (n : Int) + 1 := by omega
  have hb3 : ¬ (cap = i + 1) := by omega
  have hb4 : (i : Int) ≤ (n : Int) + 1 := by omega
  have hb5 : ¬ (cap = i) := by omega
  have htn : ((i : Int) + 1).toNat = i + 1 := by omega
  go_enter Try.func41, Try.ntmps41
  go_wp2_with (simp only [hov])
  go_region_law (refine step_copy_run rfl _ _ 55 55 rfl _ _ (by simp [Act.eval, Act.put]) (by simp [Act.eval, Act.put]) (hcp1 _) ?_)
  go_wp2_with (at_builtin; refine wpList_copy_run _ rfl _ _ 55 55 rfl _ _ rfl rfl (hcp2 _) ?_)
  go_ret
  exact ⟨rfl, Hc.out.trans (Chg.setRow (S := (· = g)) (fun _ => rfl) _) (fun _ _ h => h), X2.toArray, setRow_heap W1 g _ _ 54 _ hg1, by simpa using Hsh.out.1, by simpa using Hsh.out.2⟩

set_option maxRecDepth 100000 in
set_option maxHeartbeats 400000 in
theorem insert41_grow (w : World) (g n i s : Nat) (cur : Array Value) (xs : List Value) (c0 c1 : Value)
   (hg : w.heap[g]? = some (.cells cur 54 (0, 0))) (hs : w.heap[s]? = some (.cells #[c0, c1] 54 (0, 0)))
   (hi : i < n) (hn : n ≤ 100) (hcur : cur.toList = xs) (hx : xs.length = n * 2) (h0 : c0.oneCell' = true) (h1 : c1.oneCell' = true) (h2 : ∀ v ∈ xs, v.oneCell' = true) :
    Calls Try.prog 41 #[.slice (some ⟨g, 0, none⟩) n n, .int .i64 i, .slice (some ⟨s, 0, none⟩) 1 1] w (InsertDone 54 n i (.slice (some ⟨g, 0, none⟩) n n) xs c0 c1 w) := by
  obtain ⟨i0, hi0, hz0, hz1, hz2⟩ := info_parts Try.info54
  have hgs := lt_of_heap hg
  have hss := lt_of_heap hs
  have hap0 := fun (ty : TypeId) => run_append_make (P := Try.prog) w 55 3 ty 54 i0 _ Try.underlying55 Try.underlying3 hi0 hz0 ⟨g, 0, none⟩ i n (n + 1 - i) (xs.take (i * 2)) (by rw [hz1]; simp; omega)
      (fun j v hj => by
        rw [Addr.add_lit, cell_of_row w g _ cur 54 (0, 0) hg]
        rw [← hcur, List.getElem?_take] at hj
        split at hj
        · simpa using hj
        · cases hj) (by omega) (by omega) (growslice_fits (by omega) (by rw [hz2]; omega)) (by rw [hz2]; omega) (by rw [hz1]; omega)
  have ek : (((n + 1 - i : Nat)) : Int) = (n : Int) + 1 - i := by omega
  have es : i + (n + 1 - i) = n + 1 := by omega
  simp only [ek, es] at hap0
  have hge := grownCap_ge w (n + 1) n 54
  have hle := grownCap_le_maxLen w (n + 1) n 54 (by unfold maxLen; omega)
  obtain ⟨cap, hcap⟩ : ∃ cap, cap = grownCap w (n + 1) n 54 := ⟨_, rfl⟩
  rw [← hcap] at hge hle
  simp only [← hcap] at hap0
  obtain ⟨Z, hZ⟩ : ∃ Z : List Value, Z = ((xs.take (i * 2)).toArray ++ Builtin.zeroCells (Value.agg #[.string ⟨#[]⟩, .pointer none]).cells (n + 1 - i) ++ Builtin.zeroCells (Value.agg #[.string ⟨#[]⟩, .pointer none]).cells (cap - (n + 1))).toList := ⟨_, rfl⟩
  have lZ : Z.length = cap * 2 := by
    rw [hZ]; simp [size_zeroCells, Value.cells]; omega
  have tZ : Z.take (i * 2) = xs.take (i * 2) := by
    have hl : (xs.take (i * 2)).length = i * 2 := by simp; omega
    have he : Z = xs.take (i * 2) ++ ((Builtin.zeroCells (Value.agg #[.string ⟨#[]⟩, .pointer none]).cells (n + 1 - i)).toList ++ (Builtin.zeroCells (Value.agg #[.string ⟨#[]⟩, .pointer none]).cells (cap - (n + 1))).toList) := by
      rw [hZ]; simp
    rw [he]
    exact List.take_left' hl
  obtain ⟨W0, hW0⟩ : ∃ W0, W0 = w.drew.alloc (.cells Z.toArray 54 (0, 0)) := ⟨_, rfl⟩
  have hap : ∀ ty, (Builtin.append_ #[55, 3] ty #[.slice (some ⟨g, 0, none⟩) i n, .int .i64 ((n : Int) + 1 - i)]).run Try.prog w = .ok (.slice (some ⟨w.heap.size, 0, none⟩) (n + 1) cap) W0 := fun ty => by
    rw [hap0 ty, hW0, hZ, Array.toArray_toList]
  have hN : W0.heap[w.heap.size]? = some (.cells Z.toArray 54 (0, 0)) := by rw [hW0]; exact heap_alloc_new w.drew _
  have hs0 : W0.heap[s]? = some (.cells #[c0, c1] 54 (0, 0)) := by rw [hW0]; exact (heap_alloc_old w.drew _ hss).trans hs
  have hg0 : W0.heap[g]? = some (.cells cur 54 (0, 0)) := by rw [hW0]; exact (heap_alloc_old w.drew _ hgs).trans hg
  have hc0 : Chg (fun k => k = g) w W0 := by rw [hW0]; exact (Chg.drew _ _).trans (Chg.alloc (S := (fun k => k = g)) _ _) (fun _ _ h => h)
  obtain ⟨Y1, hY1⟩ : ∃ Y1, Y1 = Z.take (i * 2) ++ [c0, c1] ++ Z.drop (i * 2 + 2) := ⟨_, rfl⟩
  obtain ⟨Y2, hY2⟩ : ∃ Y2, Y2 = Y1.take ((i + 1) * 2) ++ xs.drop (i * 2) ++ Y1.drop ((i + 1) * 2 + (xs.drop (i * 2)).length) := ⟨_, rfl⟩
  have lY1 : Y1.length = cap * 2 := by rw [hY1]; simp; omega
  have hgr := grow_list xs Z Y1 Y2 i n cap c0 c1 hi (by omega) hx lZ tZ hY1 hY2
  have hcp1 : ∀ ty, (Builtin.copy_ #[55, 55] ty #[.slice (some ⟨w.heap.size, i * 2, none⟩) (n + 1 - i) (cap - i), .slice (some ⟨s, 0, none⟩) 1 1]).run Try.prog W0 = .ok (goInt 1) (W0.setRow w.heap.size Y1.toArray) := by
    intro ty
    rw [hY1]
    refine run_copy_cells W0 55 55 ty 54 i0 w.heap.size (i * 2) (n + 1 - i) (cap - i) ⟨s, 0, none⟩ 1 1 1 Z.toArray 54 [c0, c1] Try.underlying55 hi0 hN ?_ ?_ ?_ ?_ ?_
    · simp only [Nat.min_def]; split <;> omega
    · rw [hz1]; rfl
    · intro j v hj
      rw [Addr.add_lit, cell_of_row W0 s _ _ 54 (0, 0) hs0]
      simpa using hj
    · simp; omega
    · simp [h0, h1]
  obtain ⟨W1, hW1⟩ : ∃ W1, W1 = W0.setRow w.heap.size Y1.toArray := ⟨_, rfl⟩
  rw [← hW1] at hcp1
  have hN1 : W1.heap[w.heap.size]? = some (.cells Y1.toArray 54 (0, 0)) := by rw [hW1]; exact setRow_heap W0 _ _ _ 54 _ hN
  have hg1 : W1.heap[g]? = some (.cells cur 54 (0, 0)) := by rw [hW1, setRow_other _ _ _ _ (by omega)]; exact hg0
  have hc1 : Chg (fun k => k = g) w W1 := by rw [hW1]; exact hc0.trans (Chg.setRow (S := (fun k => k = g ∨ k = w.heap.size)) (fun _ => .inr rfl) _) (fun k hk h => h.elim id (fun h => by omega))
  have hcp2 : ∀ ty, (Builtin.copy_ #[55, 55] ty #[.slice (some ⟨w.heap.size, (i + 1) * 2, none⟩) (n - i) (cap - (i + 1)), .slice (some ⟨g, i * 2, none⟩) (n - i) (n - i)]).run Try.prog W1.drew = .ok (goInt ((n - i : Nat) : Int)) (W1.drew.setRow w.heap.size Y2.toArray) := by
    intro ty
    rw [hY2]
    refine run_copy_cells W1.drew 55 55 ty 54 i0 w.heap.size ((i + 1) * 2) (n - i) (cap - (i + 1)) ⟨g, i * 2, none⟩ (n - i) (n - i) (n - i) Y1.toArray 54 (xs.drop (i * 2)) Try.underlying55 hi0 hN1 ?_ ?_ ?_ ?_ ?_
    · simp
    · rw [hz1]; simp; omega
    · intro j v hj
      rw [Addr.add_lit, World.cell?_drew, cell_of_row W1 g _ cur 54 (0, 0) hg1]
      rw [← hcur, List.getElem?_drop] at hj
      simpa using hj
    · simp; omega
    · intro v hv; exact h2 v (List.mem_of_mem_drop hv)
  have Hgr := Lib.hid hgr
  have Hc := Lib.hid hc1
  have Hx := Lib.hid hx
  have Hcap := Lib.hid hge
  clear ek es hap0 hY1 hY2 hZ hW0 hW1 hgr hc0 hc1 lZ lY1 tZ h2 hx hcap hN hs0 hg0 hg1 hcur
  have hw1 : IntKind.i64.wrap ((i : Int) + 1) = (i : Int) + 1 := IntWalk.i64_in _ (by omega)
  have hb1 : (0 : Int) ≤ (i : Int) + 1 := by omega
  have hb2 : (i : Int) + 1 ≤ (n : Int) + 1 := by omega
  have hb3 : ¬ (cap = i + 1) := by omega
  have hb4 : (i : Int) ≤ (n : Int) := by omega
  have hb5 : ¬ (cap = i) := by omega
  have hb6 : ¬ (n = i) := by omega
  have htn : ((i : Int) + 1).toNat = i + 1 := by omega
  go_enter Try.func41, Try.ntmps41
  go_wp2_with (first | (at_builtin; refine Lib.wpList_append_run _ rfl _ _ _ _ rfl _ _ rfl rfl _ _ (hap _) ?_) | (at_builtin; refine wpList_copy_run _ rfl _ _ 55 55 rfl _ _ rfl rfl (hcp1 _) ?_))
  go_region_law (refine step_copy_run rfl _ _ 55 55 rfl _ _ (by simp [Act.eval, Act.put]) (by simp [Act.eval, Act.put]) (hcp2 _) ?_)
  go_wp2_with fail
  go_ret
  refine ⟨_, rfl, ⟨length_insCells xs n i c0 c1 Hx.out (by omega), .inr ⟨w.heap.size, cap, Y2.toArray, rfl, by omega, setRow_heap W1.drew _ _ _ 54 _ hN1, by omega, hle, by simpa using Hgr.out.1, by simpa using Hgr.out.2⟩⟩, ?_, ?_⟩
  · exact (Hc.out.mono (fun k _ h => by subst h; rfl)).trans ((Chg.drew _ _).trans (Chg.setRow (S := fun k => k = w.heap.size) (fun _ => rfl) _) (fun _ _ h => h)) (fun k hk h => absurd h (by omega))
  · intro k hk
    simp [Value.ownBlock] at hk
    exact .inr (by omega)

set_option maxRecDepth 100000 in
set_option maxHeartbeats 400000 in
theorem insert41_end (w : World) (n s : Nat) (v : Value) (xs : List Value) (c0 c1 : Value)
   (hown : w.ownsRow 0 54 2 v n xs) (hs : w.heap[s]? = some (.cells #[c0, c1] 54 (0, 0)))
   (hn : n ≤ 100) (h0 : c0.oneCell' = true) (h1 : c1.oneCell' = true) :
    Calls Try.prog 41 #[v, .int .i64 n, .slice (some ⟨s, 0, none⟩) 1 1] w (InsertDone 54 n n v xs c0 c1 w) := by
  obtain ⟨i0, hi0, hz0, hz1, hz2⟩ := info_parts Try.info54
  have hsrc : ∀ j u, [c0, c1][j]? = some u → w.cell? ((⟨s, 0, none⟩ : Addr).add j) = some u := by
    intro j u hj
    rw [Addr.add_lit, cell_of_row w s _ _ 54 (0, 0) hs]
    simpa using hj
  obtain ⟨v', w', hr, hown', hch, hnew⟩ := append_own (P := Try.prog) w 55 55 54 i0 _ 2 24 Try.underlying55 hi0 hz0 hz1 hz2 rfl (by decide) v n xs hown ⟨s, 0, none⟩ 1 1 [c0, c1] rfl hsrc (by simp [h0, h1]) (by unfold maxLen; omega) (by omega)
  have hx : xs.length = n * 2 := hown.1
  have hins : insCells xs n c0 c1 = xs ++ [c0, c1] := by unfold insCells; rw [← hx]; simp
  have hfin : InsertDone 54 n n v xs c0 c1 w (.returned v') w' := ⟨v', rfl, hins ▸ hown', hch, hnew⟩
  have Hf := Lib.hid hfin
  have H0 : v = .slice none 0 0 ∧ n = 0 ∨ ∃ g cap, v = .slice (some ⟨g, 0, none⟩) n cap ∧ n ≤ cap ∧ cap ≤ maxLen := by
    rcases hown.2 with ⟨rfl, h⟩ | ⟨g, cap, cur, rfl, _, _, h, h', _⟩
    · exact .inl ⟨rfl, h⟩
    · exact .inr ⟨g, cap, rfl, h, h'⟩
  clear hfin hown' hch hnew hins hx hown hsrc
  rcases H0 with ⟨rfl, rfl⟩ | ⟨g, cap, rfl, hnc, hcm⟩
  · go_enter Try.func41, Try.ntmps41
    go_wp2_with (at_builtin; refine Lib.wpList_append_run _ rfl _ _ _ _ rfl _ _ rfl rfl _ _ hr ?_)
    go_ret
    exact Hf.out
  · unfold maxLen at hcm
    go_enter Try.func41, Try.ntmps41
    go_wp2_with (at_builtin; refine Lib.wpList_append_run _ rfl _ _ _ _ rfl _ _ rfl rfl _ _ hr ?_)
    all_goals (go_ret; exact Hf.out)

/-- slices.Insert(s, i, x), s a row of its own, x in a block of its own. -/
theorem insert41 (w : World) (n i s : Nat) (v : Value) (xs : List Value) (c0 c1 : Value)
   (hown : w.ownsRow 0 54 2 v n xs) (hs : w.heap[s]? = some (.cells #[c0, c1] 54 (0, 0))) (hsv : v.ownBlock ≠ some s)
   (hi : i ≤ n) (hn : n ≤ 100) (h0 : c0.oneCell' = true) (h1 : c1.oneCell' = true) (h2 : ∀ v ∈ xs, v.oneCell' = true) :
    Calls Try.prog 41 #[v, .int .i64 i, .slice (some ⟨s, 0, none⟩) 1 1] w (InsertDone 54 n i v xs c0 c1 w) := by
  by_cases he : i = n
  · subst he; exact insert41_end w i s v xs c0 c1 hown hs hn h0 h1
  · rcases hown.2 with ⟨rfl, rfl⟩ | ⟨g, cap, cur, rfl, hb, hg, hnc, hcm, hcs, htake⟩
    · omega
    · by_cases hroom : n < cap
      · refine (insert41_room w g n cap i s cur c0 c1 hg hs (by omega) hroom hcm hcs (fun e => hsv (by simp [Value.ownBlock, e])) h0 h1 (by rw [htake]; exact h2)).mono ?_
        rintro e w' ⟨rfl, hch, cur', hg', hc', ht'⟩
        refine ⟨_, rfl, ⟨length_insCells xs n i c0 c1 hown.1 hi, .inr ⟨g, cap, cur', rfl, hb, hg', by omega, hcm, hc', by rw [ht', htake]⟩⟩, hch.mono (fun k _ h => by subst h; rfl), fun k hk => .inl hk⟩
      · obtain rfl : cap = n := by omega
        have hcl : cur.toList = xs := by rw [← htake, List.take_of_length_le (by simp; omega)]
        exact insert41_grow w g cap i s cur xs c0 c1 hg hs (by omega) hn hcl hown.1 h0 h1 h2

end Go.Proofs.Ytempbaflcbmcpaa
