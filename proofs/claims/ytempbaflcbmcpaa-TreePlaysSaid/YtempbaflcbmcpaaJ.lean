/- (*node).join. -/
import Derived.Test.YtempbaflcbmcpaaW
namespace Go.Proofs.Ytempbaflcbmcpaa
open Go.RowKit

theorem halve43_of (w : World) (b slot g c T m : Nat) (cs : Array Value) (xs : List Value) (hm : m = 5)
    (hb : w.heap[b]? = some (.cells cs T (0, 0))) (hs : cs[slot]? = some (.slice (some ⟨g, 0, none⟩) m c))
    (hown : w.ownsRow 0 65 2 (.slice (some ⟨g, 0, none⟩) m c) m xs) :
    Calls Try.prog 43 #[.pointer (some ⟨b, slot, none⟩)] w (HalveEnd 65 T b slot cs xs w) := by
  subst hm; exact halve43 w b slot g c T cs xs hb hs hown
theorem halve44_of (w : World) (b slot g c T m : Nat) (cs : Array Value) (xs : List Value) (hm : m = 5)
    (hb : w.heap[b]? = some (.cells cs T (0, 0))) (hs : cs[slot]? = some (.slice (some ⟨g, 0, none⟩) m c))
    (hown : w.ownsRow 0 54 2 (.slice (some ⟨g, 0, none⟩) m c) m xs) :
    Calls Try.prog 44 #[.pointer (some ⟨b, slot, none⟩)] w (HalveEnd 54 T b slot cs xs w) := by
  subst hm; exact halve44 w b slot g c T cs xs hb hs hown

theorem run_append_nil_nil {P : Program} (w : World) (t ty e : TypeId) (i : TypeInfo) (ht : P.underlying t = some (.slice e)) (hi : P.info? e = some i) :
    (Builtin.append_ #[t, t] ty #[.slice none 0 0, .slice none 0 0]).run P w = .ok (.slice none 0 0) w := by
  simp [Builtin.append_, run_underlying ht, sizeOf, typeInfo, hi, Builtin.lenOf, Builtin.firstCells]

def JoinEnd (d : Nat) (l r : AT d) (w : World) (en : Ending) (w' : World) : Prop :=
  ∃ (l' : AT d) (r' : Option (AT d)), en = .returned (ptrOf d r') ∧ AT.b d l' = AT.b d l ∧ Lies w' d l' ∧ WF 2 d l' ∧ (∀ x, r' = some x → Lies w' d x ∧ WF 2 d x) ∧
    AT.toL d l' ++ restL d r' = AT.toL d l ++ AT.toL d r ∧ (AT.blocks d l' ++ restB d r').Nodup ∧ (∀ x ∈ AT.blocks d l' ++ restB d r', x ∈ AT.blocks d l ++ AT.blocks d r ∨ w.heap.size ≤ x) ∧ Chg (· ∈ AT.blocks d l) w w'


theorem leafCells_append (a b : KV) : leafCells (a ++ b) = leafCells a ++ leafCells b := by simp [leafCells, cellsOf_append]
theorem leafCells_take (kv : KV) (n : Nat) : (leafCells kv).take (n * 2) = leafCells (kv.take n) := by unfold leafCells; rw [take_cellsOf, List.map_take]
theorem leafCells_drop (kv : KV) (n : Nat) : (leafCells kv).drop (n * 2) = leafCells (kv.drop n) := by unfold leafCells; rw [drop_cellsOf, List.map_drop]

theorem join_leaf_in {w w' : World} {b1 g1 b2 n c1 g' c' : Nat} {v2 : Value} {kv1 kv2 : KV} (hn : kv1.length + kv2.length = n) (h2 : 2 ≤ n ∧ n ≤ 4) (hb : b1 ≠ g') (hg : g1 = g' ∨ w.heap.size ≤ g') {n1 : Nat}
    (hbw : w'.heap[b1]? = some (.cells #[.slice (some ⟨g', 0, none⟩) n c', .slice none 0 0] 62 (0, 0))) (ho : w'.ownsRow 0 65 2 (.slice (some ⟨g', 0, none⟩) n c') n (leafCells kv1 ++ leafCells kv2))
    (hch : Chg (fun x => x = b1 ∨ x = g1) w w') :
    JoinEnd 0 (⟨b1, .slice (some ⟨g1, 0, none⟩) n1 c1, kv1⟩ : Leaf) (⟨b2, v2, kv2⟩ : Leaf) w (.returned (.pointer none)) w' := by
  rw [← leafCells_append] at ho
  have hl : (kv1 ++ kv2).length = n := by rw [List.length_append, hn]
  refine ⟨(⟨b1, .slice (some ⟨g', 0, none⟩) n c', kv1 ++ kv2⟩ : Leaf), none, rfl, rfl, ⟨hbw, ?_⟩, ?_, by simp, ?_, ?_, ?_, ?_⟩
  · show World.ownsRow _ 0 65 2 _ (kv1 ++ kv2).length _
    rw [hl]; exact ho
  · show 2 ≤ (kv1 ++ kv2).length ∧ (kv1 ++ kv2).length ≤ 4
    rw [hl]; exact h2
  · show (kv1 ++ kv2) ++ [] = kv1 ++ kv2
    simp
  · show ([b1, g'] ++ []).Nodup
    simp [hb]
  · intro x hx
    replace hx : x ∈ [b1, g'] ++ [] := hx
    simp only [List.append_nil, List.mem_cons, List.not_mem_nil, or_false] at hx
    rcases hx with rfl | rfl
    · exact .inl (by simp [AT.blocks])
    · rcases hg with h | h
      · exact .inl (by simp [AT.blocks, Value.ownBlock, h])
      · exact .inr h
  · exact hch.mono (fun x _ h => by show x ∈ [b1, g1]; simpa using h)

theorem join_leaf_split {w w' : World} {b1 g1 b2 c1 k1 k2 d1 d2 N M : Nat} {v2 : Value} {kv1 kv2 : KV} (hn : kv1.length + kv2.length = 5) {n1 : Nat}
    (hb : w'.heap[b1]? = some (.cells #[.slice (some ⟨k1, 0, none⟩) 2 d1, .slice none 0 0] 62 (0, 0))) (hN : w'.heap[N]? = some (.cells #[.slice (some ⟨k2, 0, none⟩) 3 d2, .slice none 0 0] 62 (0, 0)))
    (ho1 : w'.ownsRow 0 65 2 (.slice (some ⟨k1, 0, none⟩) 2 d1) 2 ((leafCells kv1 ++ leafCells kv2).take 4)) (ho2 : w'.ownsRow 0 65 2 (.slice (some ⟨k2, 0, none⟩) 3 d2) 3 ((leafCells kv1 ++ leafCells kv2).drop 4))
    (hM : M ≤ k1 ∧ M ≤ k2 ∧ M ≤ N ∧ k1 ≠ k2 ∧ N ≠ k1 ∧ N ≠ k2) (hbM : b1 < M) (hwM : w.heap.size ≤ M)
    (hch : Chg (fun x => x = b1 ∨ x = g1) w w') :
    JoinEnd 0 (⟨b1, .slice (some ⟨g1, 0, none⟩) n1 c1, kv1⟩ : Leaf) (⟨b2, v2, kv2⟩ : Leaf) w (.returned (.pointer (some ⟨N, 0, none⟩))) w' := by
  rw [← leafCells_append] at ho1 ho2
  have e1 : (leafCells (kv1 ++ kv2)).take 4 = leafCells ((kv1 ++ kv2).take 2) := leafCells_take _ 2
  have e2 : (leafCells (kv1 ++ kv2)).drop 4 = leafCells ((kv1 ++ kv2).drop 2) := leafCells_drop _ 2
  rw [e1] at ho1
  rw [e2] at ho2
  have hl : (kv1 ++ kv2).length = 5 := by rw [List.length_append, hn]
  have l1 : ((kv1 ++ kv2).take 2).length = 2 := by rw [List.length_take, hl]; rfl
  have l2 : ((kv1 ++ kv2).drop 2).length = 3 := by rw [List.length_drop, hl]
  refine ⟨(⟨b1, .slice (some ⟨k1, 0, none⟩) 2 d1, (kv1 ++ kv2).take 2⟩ : Leaf), some (⟨N, .slice (some ⟨k2, 0, none⟩) 3 d2, (kv1 ++ kv2).drop 2⟩ : Leaf), rfl, rfl, ⟨hb, ?_⟩, ?_, ?_, ?_, ?_, ?_, ?_⟩
  · show World.ownsRow _ 0 65 2 _ ((kv1 ++ kv2).take 2).length _
    rw [l1]; exact ho1
  · show 2 ≤ ((kv1 ++ kv2).take 2).length ∧ ((kv1 ++ kv2).take 2).length ≤ 4
    omega
  · intro x hx
    cases hx
    refine ⟨⟨hN, ?_⟩, ?_⟩
    · show World.ownsRow _ 0 65 2 _ ((kv1 ++ kv2).drop 2).length _
      rw [l2]; exact ho2
    · show 2 ≤ ((kv1 ++ kv2).drop 2).length ∧ ((kv1 ++ kv2).drop 2).length ≤ 4
      omega
  · show (kv1 ++ kv2).take 2 ++ (kv1 ++ kv2).drop 2 = kv1 ++ kv2
    rw [List.take_append_drop]
  · show ([b1, k1] ++ [N, k2]).Nodup
    simp; omega
  · intro x hx
    replace hx : x ∈ [b1, k1] ++ [N, k2] := hx
    simp only [List.cons_append, List.nil_append, List.mem_cons, List.not_mem_nil, or_false] at hx
    rcases hx with rfl | rfl | rfl | rfl
    · exact .inl (by simp [AT.blocks])
    all_goals exact .inr (by omega)
  · exact hch.mono (fun x _ h => by show x ∈ [b1, g1]; simpa using h)

set_option maxRecDepth 100000 in
set_option maxHeartbeats 1000000 in
theorem join_leafN (w : World) (b1 b2 n1 n2 c1 c2 g1 g2 : Nat) (kv1 kv2 : KV) (h1 : kv1.length = n1) (h2 : kv2.length = n2)
    (hb1 : w.heap[b1]? = some (.cells #[.slice (some ⟨g1, 0, none⟩) n1 c1, .slice none 0 0] 62 (0, 0))) (hb2 : w.heap[b2]? = some (.cells #[.slice (some ⟨g2, 0, none⟩) n2 c2, .slice none 0 0] 62 (0, 0)))
    (ho1 : w.ownsRow 0 65 2 (.slice (some ⟨g1, 0, none⟩) n1 c1) n1 (leafCells kv1)) (ho2 : w.ownsRow 0 65 2 (.slice (some ⟨g2, 0, none⟩) n2 c2) n2 (leafCells kv2))
    (hbg : b1 ≠ g1) (hb12 : b1 ≠ b2) (hgb2 : g1 ≠ b2) (hn : 2 ≤ n1 + n2 ∧ n1 + n2 ≤ 5) (_hp : 0 < n1 ∧ 0 < n2) :
    Calls Try.prog 39 #[ptr b1, ptr b2] w (JoinEnd 0 (⟨b1, .slice (some ⟨g1, 0, none⟩) n1 c1, kv1⟩ : Leaf) (⟨b2, .slice (some ⟨g2, 0, none⟩) n2 c2, kv2⟩ : Leaf) w) := by
  obtain ⟨i0, hi0, hz0, hz1, hz2⟩ := info_parts Try.info65
  obtain ⟨i1, hi1, -, -, -⟩ := info_parts Try.info54
  have hcell2 : ∀ (j : Nat) (u : Value), (leafCells kv2)[j]? = some u → w.drew.cell? ((⟨g2, 0, none⟩ : Addr).add j) = some u := fun j u h => ho2.cells (g := g2) rfl j u h
  have hap := append_own (P := Try.prog) w.drew 58 58 65 i0 _ 2 32 Try.underlying58 hi0 hz0 hz1 hz2 rfl (by decide) _ n1 (leafCells kv1) (ownsRow_chg (Chg.drew (fun _ => False) w) ho1 (fun _ _ h => h))
    ⟨g2, 0, none⟩ n2 c2 (leafCells kv2) (by rw [length_leafCells, h2]) hcell2 (leafCells_one kv2) (by unfold maxLen; omega) (by omega)
  obtain ⟨v', w2, hr, ho', hch, hnew⟩ := hap
  obtain ⟨g', c', hv, -, -, -⟩ := row_form ho' (by omega)
  subst hv
  have hx0 : w.cell? ⟨b1, 0, none⟩ = some (.slice (some ⟨g1, 0, none⟩) n1 c1) := cell_at hb1 0
  have hx1 : w.cell? ⟨b2, 0, none⟩ = some (.slice (some ⟨g2, 0, none⟩) n2 c2) := cell_at hb2 0
  have hbs := lt_of_heap hb1
  have hg'b : g' ≠ b1 := by
    rcases hnew g' rfl with h | h
    · cases h; exact hbg.symm
    · simp at h; omega
  have hg'n : g1 = g' ∨ w.heap.size ≤ g' := (hnew g' rfl).imp (fun h => by cases h; rfl) (fun h => h)
  have hb12' : w2.heap[b1]? = some (.cells #[.slice (some ⟨g1, 0, none⟩) n1 c1, .slice none 0 0] 62 (0, 0)) := hch.at (w := w.drew) hb1 (fun e => by cases e; exact hbg rfl)
  have hb22' : w2.heap[b2]? = some (.cells #[.slice (some ⟨g2, 0, none⟩) n2 c2, .slice none 0 0] 62 (0, 0)) := hch.at (w := w.drew) hb2 (fun e => by cases e; exact hgb2 rfl)
  have hy0 := cell_at hb12' 0
  have hy1 := free_at hb12' 0
  obtain ⟨w3, hw3⟩ : ∃ w3, w3 = w2.setCell ⟨b1, 0, none⟩ (.slice (some ⟨g', 0, none⟩) (n1 + n2) c') := ⟨_, rfl⟩
  have hc3 : Chg (· = b1) w2 w3 := by rw [hw3]; exact Chg.setCell (S := (· = b1)) (p := ⟨b1, 0, none⟩) (fun _ => rfl) _
  have hb3 : w3.heap[b1]? = some (.cells #[.slice (some ⟨g', 0, none⟩) (n1 + n2) c', .slice none 0 0] 62 (0, 0)) := by rw [hw3]; exact heap_setCell w2 b1 0 _ 62 _ hb12'
  have hb32 : w3.heap[b2]? = some (.cells #[.slice (some ⟨g2, 0, none⟩) n2 c2, .slice none 0 0] 62 (0, 0)) := hc3.at hb22' (fun e => hb12 e.symm)
  have hu0 := cell_at hb3 1
  have hu1 := cell_at hb32 1
  have hu2 := free_at hb3 1
  have hnil := fun ty => run_append_nil_nil (P := Try.prog) w3.drew 55 ty 54 i1 Try.underlying55 hi1
  obtain ⟨w4, hw4⟩ : ∃ w4, w4 = (w3.setCell ⟨b1, 1, none⟩ (.slice none 0 0)).drew := ⟨_, rfl⟩
  have hc4 : Chg (· = b1) w3 w4 := by rw [hw4]; exact (Chg.setCell (S := (· = b1)) (p := ⟨b1, 1, none⟩) (fun _ => rfl) _).trans (Chg.drew _ _) (fun _ _ h => h)
  have hb4 : w4.heap[b1]? = some (.cells #[.slice (some ⟨g', 0, none⟩) (n1 + n2) c', .slice none 0 0] 62 (0, 0)) := by rw [hw4]; exact heap_setCell w3 b1 1 _ 62 _ hb3
  have ho4 : w4.ownsRow 0 65 2 (.slice (some ⟨g', 0, none⟩) (n1 + n2) c') (n1 + n2) (leafCells kv1 ++ leafCells kv2) :=
    ownsRow_chg hc4 (ownsRow_chg hc3 ho' (fun x hx => by cases hx; exact hg'b)) (fun x hx => by cases hx; exact hg'b)
  have hch4 : Chg (fun x => x = b1 ∨ x = g1) w w4 :=
    (((Chg.drew (S := fun x => x = b1 ∨ x = g1) w).trans hch (fun x _ h => by cases h; exact .inr rfl)).trans hc3 (fun _ _ h => .inl h)).trans hc4 (fun _ _ h => .inl h)
  have hz := size_calls w4 b1 (some ⟨g', 0, none⟩) none (n1 + n2) c' 0 0 (cell_at hb4 0) (cell_at hb4 1) (by omega) (by omega)
  have hl4 : w.heap.size ≤ w4.heap.size := hch4.size
  by_cases hn4 : n1 + n2 ≤ 4
  · have hfin : ∀ m, JoinEnd 0 (⟨b1, .slice (some ⟨g1, 0, none⟩) n1 c1, kv1⟩ : Leaf) (⟨b2, .slice (some ⟨g2, 0, none⟩) n2 c2, kv2⟩ : Leaf) w (.returned (.pointer none)) (w4.drewN m) := fun m =>
      join_leaf_in (n := n1 + n2) (by omega) ⟨hn.1, hn4⟩ hg'b.symm hg'n hb4 (ownsRow_chg (Chg.drewN (fun _ => False) w4 m) ho4 (fun _ _ h => h)) (hch4.trans (Chg.drewN (fun _ => False) w4 m) (fun _ _ h => h.elim))
    have Hf := Lib.hid hfin
    have Hz := Lib.hid hz
    have Hr := Lib.hid hr
    have Hnil := Lib.hid hnil
    have H3 := Lib.hid hw3
    have H4 := Lib.hid hw4
    clear hfin hz hr hnil hw3 hw4 hc3 hb3 hb32 hc4 hb4 ho4 hch4 hb12' hb22' hch ho' hnew hb1 hb2 ho1 ho2 hcell2
    have hle : ((n1 + n2 : Nat) : Int) ≤ 4 := by omega
    unfold ptr
    go_enter Try.func39, Try.ntmps39
    go_wp2_with fail
    go_region_law (refine step_append_run rfl _ _ 58 58 rfl _ _ (by simp [Act.eval]) (by simp [Act.eval]) Hr.out ?_)
    all_goals
      go_wp2_with fail
      rw [← H3.out]
      go_region_law (refine step_append_run rfl _ _ 55 55 rfl _ _ (by simp [Act.eval]) (by simp [Act.eval]) (Hnil.out _) ?_)
    all_goals
      go_wp2_with fail
      rw [← H4.out]
      refine Hz.out.mono ?_
      rintro e w5 ⟨rfl, m, rfl⟩
      go_wp2_with fail
      go_ret
      exact Hf.out _
  · have h5 : n1 + n2 = 5 := by omega
    have Hl := Lib.hid (fun m => leaf_yes (w4.drewN m) b1 none 0 (cell_at (w := w4.drewN m) hb4 1))
    have Hh := Lib.hid (fun m => halve43_of (w4.drewN m) b1 0 g' c' 62 (n1 + n2) _ _ h5 hb4 rfl (ownsRow_chg (Chg.drewN (fun _ => False) w4 m) ho4 (fun _ _ h => h)))
    have Hch4 := Lib.hid hch4
    have H5 := Lib.hid h5
    have Hz := Lib.hid hz
    have Hr := Lib.hid hr
    have Hnil := Lib.hid hnil
    have H3 := Lib.hid hw3
    have H4 := Lib.hid hw4
    clear h5 hch4 hz hr hnil hw3 hw4 hc3 hb3 hb32 hc4 hb4 ho4 hb12' hb22' hch ho' hnew hb1 hb2 ho1 ho2 hcell2
    have hle : ¬ ((n1 + n2 : Nat) : Int) ≤ 4 := by omega
    unfold ptr
    go_enter Try.func39, Try.ntmps39
    go_wp2_with fail
    go_region_law (refine step_append_run rfl _ _ 58 58 rfl _ _ (by simp [Act.eval]) (by simp [Act.eval]) Hr.out ?_)
    all_goals
      go_wp2_with fail
      rw [← H3.out]
      go_region_law (refine step_append_run rfl _ _ 55 55 rfl _ _ (by simp [Act.eval]) (by simp [Act.eval]) (Hnil.out _) ?_)
    all_goals
      go_wp2_with fail
      rw [← H4.out]
      refine Hz.out.mono ?_
      rintro e w5 ⟨rfl, m, rfl⟩
      go_wp2_with fail
      refine (Hl.out m).mono ?_
      rintro e w5 ⟨rfl, rfl⟩
      go_wp2_with fail
      refine (Hh.out m).mono ?_
      rintro e w6 ⟨v1, v2, k1, k2, rfl, hq1, hq2, hb6, hch6, hv1, hv2, hk1, hk2, h12⟩
      obtain ⟨d1, hf1, -, -⟩ := ownsRow_form hq1 hv1
      obtain ⟨d2, hf2, -, -⟩ := ownsRow_form hq2 hv2
      subst hf1
      subst hf2
      have hl1 : k1 < w6.heap.size := (hq1.lt k1 hv1).2
      have hl2 : k2 < w6.heap.size := (hq2.lt k2 hv2).2
      have hl6 : w4.heap.size ≤ w6.heap.size := hch6.size
      replace hk1 : w4.heap.size ≤ k1 := hk1
      replace hk2 : w4.heap.size ≤ k2 := hk2
      have hfin := join_leaf_split (w := w) (w' := w6.alloc (.cells #[.slice (some ⟨k2, 0, none⟩) 3 d2, .slice none 0 0] 62 (0, 0))) (b1 := b1) (g1 := g1) (b2 := b2) (c1 := c1) (k1 := k1) (k2 := k2) (N := w6.heap.size) (M := w4.heap.size)
        (v2 := .slice (some ⟨g2, 0, none⟩) n2 c2) (kv1 := kv1) (kv2 := kv2) (n1 := n1) (by rw [h1, h2]; exact H5.out) ((heap_alloc_old w6 _ (by omega)).trans hb6) (heap_alloc_new w6 _) (hq1.alloc _) (hq2.alloc _)
        ⟨hk1, hk2, hl6, h12, by omega, by omega⟩ (by omega) hl4 (((Hch4.out.trans (Chg.drewN (fun _ => False) w4 m) (fun _ _ h => h.elim)).trans hch6 (fun _ _ h => .inl h)).trans (Chg.alloc (S := fun _ => False) _ _) (fun _ _ h => h.elim))
      have Hf := Lib.hid hfin
      clear hfin hq1 hq2 hb6 hch6 hv1 hv2
      go_wp2_with fail
      go_ret
      exact Hf.out

end Go.Proofs.Ytempbaflcbmcpaa
