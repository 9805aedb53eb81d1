/- (*node).join at inner nodes. -/
import Derived.Test.YtempbaflcbmcpaaJ
namespace Go.Proofs.Ytempbaflcbmcpaa
open Go.RowKit

theorem kidCells_append (d : Nat) (a b : List (ByteArray × AT d)) : kidCells d (a ++ b) = kidCells d a ++ kidCells d b := by simp [kidCells, cellsOf_append]

theorem join_inner_in {d : Nat} {w w' : World} {b1 g1 b2 n c1 g' c' n1 : Nat} {v2 : Value} {ks1 ks2 : List (ByteArray × AT d)} (hn : ks1.length + ks2.length = n) (h2 : 2 ≤ n ∧ n ≤ 4)
    (K : Kids d (AT.blocks (d + 1) (⟨b1, .slice (some ⟨g1, 0, none⟩) n1 c1, ks1⟩ : Inner (AT d)) ++ AT.blocks (d + 1) (⟨b2, v2, ks2⟩ : Inner (AT d))) b1 (ks1 ++ ks2) w w')
    (hb : b1 ≠ g') (hgk : g' ∉ blocksL d (ks1 ++ ks2)) (hg : g1 = g' ∨ w.heap.size ≤ g')
    (hbw : w'.heap[b1]? = some (.cells #[.slice none 0 0, .slice (some ⟨g', 0, none⟩) n c'] 62 (0, 0))) (ho : w'.ownsRow 0 54 2 (.slice (some ⟨g', 0, none⟩) n c') n (kidCells d ks1 ++ kidCells d ks2))
    (hch : Chg (fun x => x = b1 ∨ x = g1) w w') :
    JoinEnd (d + 1) (⟨b1, .slice (some ⟨g1, 0, none⟩) n1 c1, ks1⟩ : Inner (AT d)) (⟨b2, v2, ks2⟩ : Inner (AT d)) w (.returned (.pointer none)) w' := by
  rw [← kidCells_append] at ho
  have hl : (ks1 ++ ks2).length = n := by rw [List.length_append, hn]
  refine ⟨(⟨b1, .slice (some ⟨g', 0, none⟩) n c', ks1 ++ ks2⟩ : Inner (AT d)), none, rfl, rfl, ⟨hbw, ?_, fun x hx => (K.lies x hx).1⟩, ⟨?_, ?_, K.keyed, fun x hx => (K.lies x hx).2⟩, by simp, ?_, ?_, ?_, ?_⟩
  · show World.ownsRow _ 0 54 2 _ (ks1 ++ ks2).length _
    rw [hl]; exact ho
  · show 2 ≤ (ks1 ++ ks2).length
    rw [hl]; exact h2.1
  · show (ks1 ++ ks2).length ≤ 4
    rw [hl]; exact h2.2
  · have e1 := toL_inner d ⟨b1, .slice (some ⟨g', 0, none⟩) n c', ks1 ++ ks2⟩
    have e2 := toL_inner d ⟨b1, .slice (some ⟨g1, 0, none⟩) n1 c1, ks1⟩
    have e3 := toL_inner d ⟨b2, v2, ks2⟩
    simp only at e1 e2 e3
    show AT.toL (d + 1) _ ++ [] = AT.toL (d + 1) _ ++ AT.toL (d + 1) _
    rw [List.append_nil, e1, e2, e3, segsOf_append, segs_append]
  · show ((b1 :: ([g'] ++ blocksL d (ks1 ++ ks2))) ++ []).Nodup
    have h := K.nodup
    rw [List.nodup_cons] at h
    rw [List.append_nil, List.nodup_cons]
    refine ⟨?_, ?_⟩
    · simp only [List.mem_append, List.mem_singleton, not_or]
      exact ⟨hb, by simpa using h.1⟩
    · rw [List.singleton_append, List.nodup_cons]; exact ⟨hgk, h.2⟩
  · intro x hx
    replace hx : x ∈ (b1 :: ([g'] ++ blocksL d (ks1 ++ ks2))) ++ [] := hx
    rw [List.append_nil] at hx
    rcases List.mem_cons.1 hx with rfl | hx
    · exact .inl (by simp [AT.blocks])
    · rcases List.mem_append.1 hx with hx | hx
      · rw [List.mem_singleton] at hx; subst hx
        rcases hg with h | h
        · exact .inl (by simp [AT.blocks, Value.ownBlock, h])
        · exact .inr h
      · exact K.new x hx
  · exact hch.mono (fun x _ h => by
      show x ∈ b1 :: ([g1] ++ blocksL d ks1)
      rcases h with h | h <;> simp [h])

theorem join_inner_split {d : Nat} {w w' : World} {b1 g1 b2 c1 k1 k2 d1 d2 N M n1 : Nat} {v2 : Value} {ks1 ks2 : List (ByteArray × AT d)} (hn : ks1.length + ks2.length = 5)
    (K : Kids d (AT.blocks (d + 1) (⟨b1, .slice (some ⟨g1, 0, none⟩) n1 c1, ks1⟩ : Inner (AT d)) ++ AT.blocks (d + 1) (⟨b2, v2, ks2⟩ : Inner (AT d))) b1 (ks1 ++ ks2) w w')
    (hb : w'.heap[b1]? = some (.cells #[.slice none 0 0, .slice (some ⟨k1, 0, none⟩) 2 d1] 62 (0, 0))) (hN : w'.heap[N]? = some (.cells #[.slice none 0 0, .slice (some ⟨k2, 0, none⟩) 3 d2] 62 (0, 0)))
    (ho1 : w'.ownsRow 0 54 2 (.slice (some ⟨k1, 0, none⟩) 2 d1) 2 ((kidCells d ks1 ++ kidCells d ks2).take 4)) (ho2 : w'.ownsRow 0 54 2 (.slice (some ⟨k2, 0, none⟩) 3 d2) 3 ((kidCells d ks1 ++ kidCells d ks2).drop 4))
    (hk : M ≤ k1 ∧ M ≤ k2 ∧ M ≤ N ∧ k1 ≠ k2 ∧ N ≠ k1 ∧ N ≠ k2) (hM : ∀ x ∈ b1 :: blocksL d (ks1 ++ ks2), x < M) (hwM : w.heap.size ≤ M)
    (hch : Chg (fun x => x = b1 ∨ x = g1) w w') :
    JoinEnd (d + 1) (⟨b1, .slice (some ⟨g1, 0, none⟩) n1 c1, ks1⟩ : Inner (AT d)) (⟨b2, v2, ks2⟩ : Inner (AT d)) w (.returned (.pointer (some ⟨N, 0, none⟩))) w' := by
  rw [← kidCells_append] at ho1 ho2
  have hks : (ks1 ++ ks2).length = 5 := by rw [List.length_append, hn]
  obtain ⟨ks, hkk⟩ : ∃ ks, ks = ks1 ++ ks2 := ⟨_, rfl⟩
  have e1 : (kidCells d (ks1 ++ ks2)).take 4 = kidCells d ((ks1 ++ ks2).take 2) := kidCells_take d _ 2
  have e2 : (kidCells d (ks1 ++ ks2)).drop 4 = kidCells d ((ks1 ++ ks2).drop 2) := kidCells_drop d _ 2
  rw [e1] at ho1
  rw [e2] at ho2
  rw [← hkk] at ho1 ho2 hks K hM
  have l1 : (ks.take 2).length = 2 := by rw [List.length_take, hks]; rfl
  have l2 : (ks.drop 2).length = 3 := by rw [List.length_drop, hks]
  have hsp : blocksL d ks = blocksL d (ks.take 2) ++ blocksL d (ks.drop 2) := by rw [← blocksL_append, List.take_append_drop]
  have hkd : Keyed (segsOf d (ks.take 2)) ∧ Keyed (segsOf d (ks.drop 2)) := by rw [← keyed_append, List.take_append_drop]; exact K.keyed
  refine ⟨(⟨b1, .slice (some ⟨k1, 0, none⟩) 2 d1, ks.take 2⟩ : Inner (AT d)), some (⟨N, .slice (some ⟨k2, 0, none⟩) 3 d2, ks.drop 2⟩ : Inner (AT d)), rfl, rfl, ⟨hb, ?_, fun x hx => (K.lies x (List.mem_of_mem_take hx)).1⟩,
    ⟨?_, ?_, hkd.1, fun x hx => (K.lies x (List.mem_of_mem_take hx)).2⟩, ?_, ?_, ?_, ?_, ?_⟩
  · show World.ownsRow _ 0 54 2 _ (ks.take 2).length _
    rw [l1]; exact ho1
  · show 2 ≤ (ks.take 2).length
    omega
  · show (ks.take 2).length ≤ 4
    omega
  · intro x hx
    cases hx
    refine ⟨⟨hN, ?_, fun x hx => (K.lies x (List.mem_of_mem_drop hx)).1⟩, ?_, ?_, hkd.2, fun x hx => (K.lies x (List.mem_of_mem_drop hx)).2⟩
    · show World.ownsRow _ 0 54 2 _ (ks.drop 2).length _
      rw [l2]; exact ho2
    · show 2 ≤ (ks.drop 2).length
      omega
    · show (ks.drop 2).length ≤ 4
      omega
  · have f1 := toL_inner d ⟨b1, .slice (some ⟨k1, 0, none⟩) 2 d1, ks.take 2⟩
    have f2 := toL_inner d ⟨N, .slice (some ⟨k2, 0, none⟩) 3 d2, ks.drop 2⟩
    have f3 := toL_inner d ⟨b1, .slice (some ⟨g1, 0, none⟩) n1 c1, ks1⟩
    have f4 := toL_inner d ⟨b2, v2, ks2⟩
    simp only at f1 f2 f3 f4
    show AT.toL (d + 1) _ ++ AT.toL (d + 1) _ = AT.toL (d + 1) _ ++ AT.toL (d + 1) _
    rw [f1, f2, f3, f4, ← segs_append, ← segsOf_append, List.take_append_drop, hkk, segsOf_append, segs_append]
  · show ((b1 :: ([k1] ++ blocksL d (ks.take 2))) ++ (N :: ([k2] ++ blocksL d (ks.drop 2)))).Nodup
    have h := K.nodup
    rw [hsp, List.nodup_cons, List.nodup_append] at h
    obtain ⟨h1, h2, h3, h4⟩ := h
    have hb' := hM b1 (by simp)
    have ht : ∀ x ∈ blocksL d (ks.take 2), x < M := fun x hx => hM x (by rw [hsp]; simp [hx])
    have hd : ∀ x ∈ blocksL d (ks.drop 2), x < M := fun x hx => hM x (by rw [hsp]; simp [hx])
    simp only [List.mem_append, not_or] at h1
    simp only [List.cons_append, List.nil_append, List.nodup_cons, List.mem_cons, List.mem_append, not_or, List.nodup_append]
    refine ⟨⟨by omega, h1.1, by omega, by omega, h1.2⟩, ⟨fun h => by have := ht _ h; omega, by omega, by omega, fun h => by have := hd _ h; omega⟩, h2, ⟨⟨by omega, fun h => by have := hd _ h; omega⟩, ⟨fun h => by have := hd _ h; omega, h3⟩⟩, ?_⟩
    intro x hx y hy
    rcases hy with rfl | rfl | hy
    · have := ht x hx; omega
    · have := ht x hx; omega
    · exact h4 x hx y hy
  · intro x hx
    replace hx : x ∈ (b1 :: ([k1] ++ blocksL d (ks.take 2))) ++ (N :: ([k2] ++ blocksL d (ks.drop 2))) := hx
    simp only [List.cons_append, List.nil_append, List.mem_cons, List.mem_append] at hx
    have hnew := K.new x
    rw [hsp, List.mem_append] at hnew
    rcases hx with rfl | rfl | h | rfl | rfl | h
    · exact .inl (by simp [AT.blocks])
    · exact .inr (by omega)
    · exact hnew (.inl h)
    · exact .inr (by omega)
    · exact .inr (by omega)
    · exact hnew (.inr h)
  · exact hch.mono (fun x _ h => by
      show x ∈ b1 :: ([g1] ++ blocksL d ks1)
      rcases h with h | h <;> simp [h])

set_option maxRecDepth 100000 in
set_option maxHeartbeats 1000000 in
theorem join_innerN (d : Nat) (w : World) (b1 b2 n1 n2 c1 c2 g1 g2 : Nat) (ks1 ks2 : List (ByteArray × AT d)) (h1 : ks1.length = n1) (h2 : ks2.length = n2)
    (hb1 : w.heap[b1]? = some (.cells #[.slice none 0 0, .slice (some ⟨g1, 0, none⟩) n1 c1] 62 (0, 0))) (hb2 : w.heap[b2]? = some (.cells #[.slice none 0 0, .slice (some ⟨g2, 0, none⟩) n2 c2] 62 (0, 0)))
    (ho1 : w.ownsRow 0 54 2 (.slice (some ⟨g1, 0, none⟩) n1 c1) n1 (kidCells d ks1)) (ho2 : w.ownsRow 0 54 2 (.slice (some ⟨g2, 0, none⟩) n2 c2) n2 (kidCells d ks2))
    (hkids : ∀ x ∈ ks1 ++ ks2, Lies w d x.2 ∧ WF 2 d x.2) (hK : Keyed (segsOf d (ks1 ++ ks2)))
    (hnd : (b1 :: g1 :: b2 :: blocksL d (ks1 ++ ks2)).Nodup) (hn : 2 ≤ n1 + n2 ∧ n1 + n2 ≤ 5) (_hp : 0 < n1 ∧ 0 < n2) :
    Calls Try.prog 39 #[ptr b1, ptr b2] w (JoinEnd (d + 1) (⟨b1, .slice (some ⟨g1, 0, none⟩) n1 c1, ks1⟩ : Inner (AT d)) (⟨b2, .slice (some ⟨g2, 0, none⟩) n2 c2, ks2⟩ : Inner (AT d)) w) := by
  obtain ⟨i0, hi0, hz0, hz1, hz2⟩ := info_parts Try.info54
  obtain ⟨i1, hi1, -, -, -⟩ := info_parts Try.info65
  have hbs := lt_of_heap hb1
  have hnd' := hnd
  rw [List.nodup_cons, List.nodup_cons, List.nodup_cons] at hnd'
  obtain ⟨q1, q2, q3, q4⟩ := hnd'
  simp only [List.mem_cons, not_or] at q1 q2
  obtain ⟨hbg, hb12, q1⟩ := q1
  obtain ⟨hgb2, q2⟩ := q2
  have hold : ∀ x ∈ b1 :: blocksL d (ks1 ++ ks2), x ∈ AT.blocks (d + 1) (⟨b1, .slice (some ⟨g1, 0, none⟩) n1 c1, ks1⟩ : Inner (AT d)) ++ AT.blocks (d + 1) (⟨b2, .slice (some ⟨g2, 0, none⟩) n2 c2, ks2⟩ : Inner (AT d)) := by
    intro x hx
    show x ∈ (b1 :: ([g1] ++ blocksL d ks1)) ++ (b2 :: ([g2] ++ blocksL d ks2))
    rw [blocksL_append] at hx
    simp only [List.mem_cons, List.mem_append] at hx ⊢
    rcases hx with h | h | h
    · exact .inl (.inl h)
    · exact .inl (.inr (.inr h))
    · exact .inr (.inr (.inr h))
  have K0 : Kids d (AT.blocks (d + 1) (⟨b1, .slice (some ⟨g1, 0, none⟩) n1 c1, ks1⟩ : Inner (AT d)) ++ AT.blocks (d + 1) (⟨b2, .slice (some ⟨g2, 0, none⟩) n2 c2, ks2⟩ : Inner (AT d))) b1 (ks1 ++ ks2) w w :=
    ⟨hkids, hK, by rw [List.nodup_cons]; exact ⟨q1, q4⟩, fun x hx => .inl (hold x (by simp [hx])), Chg.refl _ _⟩
  -- the first statement: nothing turns
  have hx0 := cell_at hb1 0
  have hx1 := cell_at hb2 0
  have hxf := free_at hb1 0
  have hnil := fun ty => run_append_nil_nil (P := Try.prog) w.drew 58 ty 65 i1 Try.underlying58 hi1
  obtain ⟨w2, hw2⟩ : ∃ w2, w2 = (w.setCell ⟨b1, 0, none⟩ (.slice none 0 0)).drew := ⟨_, rfl⟩
  have hc2 : Chg (· = b1) w w2 := by rw [hw2]; exact (Chg.setCell (S := (· = b1)) (p := ⟨b1, 0, none⟩) (fun _ => rfl) _).trans (Chg.drew _ _) (fun _ _ h => h)
  have hb12' : w2.heap[b1]? = some (.cells #[.slice none 0 0, .slice (some ⟨g1, 0, none⟩) n1 c1] 62 (0, 0)) := by rw [hw2]; exact heap_setCell w b1 0 _ 62 _ hb1
  have hb22' : w2.heap[b2]? = some (.cells #[.slice none 0 0, .slice (some ⟨g2, 0, none⟩) n2 c2] 62 (0, 0)) := hc2.at hb2 (fun e => hb12 e.symm)
  have hs2 : w2.heap.size = w.heap.size := by rw [hw2]; simp
  have ho12 := ownsRow_chg hc2 ho1 (fun x hx => by cases hx; exact fun e => hbg e.symm)
  have ho22 : w2.ownsRow 0 54 2 (.slice (some ⟨g2, 0, none⟩) n2 c2) n2 (kidCells d ks2) := by
    by_cases e : g2 = b1
    · subst e
      rcases ho2.2 with ⟨h, _⟩ | ⟨g, cap, cur, h, _, hg, _⟩
      · cases h
      · cases h
        rw [hb1] at hg; cases hg
    · exact ownsRow_chg hc2 ho2 (fun x hx => by cases hx; exact e)
  have hcell2 : ∀ (j : Nat) (u : Value), (kidCells d ks2)[j]? = some u → w2.drew.cell? ((⟨g2, 0, none⟩ : Addr).add j) = some u := fun j u h => ho22.cells (g := g2) rfl j u h
  have hap := append_own (P := Try.prog) w2.drew 55 55 54 i0 _ 2 24 Try.underlying55 hi0 hz0 hz1 hz2 rfl (by decide) _ n1 (kidCells d ks1) (ownsRow_chg (Chg.drew (fun _ => False) w2) ho12 (fun _ _ h => h))
    ⟨g2, 0, none⟩ n2 c2 (kidCells d ks2) (by rw [length_kidCells, h2]) hcell2 (kidCells_one d ks2) (by unfold maxLen; omega) (by omega)
  obtain ⟨v', w3, hr, ho', hch, hnew⟩ := hap
  obtain ⟨g', c', hv, -, -, -⟩ := row_form ho' (by omega)
  subst hv
  have hy0 := cell_at hb12' 1
  have hy1 := cell_at hb22' 1
  have hg'n : g1 = g' ∨ w.heap.size ≤ g' := (hnew g' rfl).imp (fun h => by cases h; rfl) (fun h => by simp at h; omega)
  have hg'b : g' ≠ b1 := by
    rcases hg'n with h | h
    · rw [← h]; exact fun e => hbg e.symm
    · omega
  have hg'k : g' ∉ blocksL d (ks1 ++ ks2) := by
    rcases hg'n with h | h
    · rw [← h]; exact q2
    · intro hx; have := K0.lt _ hx; omega
  have hb3 : w3.heap[b1]? = some (.cells #[.slice none 0 0, .slice (some ⟨g1, 0, none⟩) n1 c1] 62 (0, 0)) := hch.at (w := w2.drew) hb12' (fun e => by cases e; exact hbg rfl)
  have hz3 := cell_at hb3 1
  have hzf := free_at hb3 1
  obtain ⟨w4, hw4⟩ : ∃ w4, w4 = w3.setCell ⟨b1, 1, none⟩ (.slice (some ⟨g', 0, none⟩) (n1 + n2) c') := ⟨_, rfl⟩
  have hc4 : Chg (· = b1) w3 w4 := by rw [hw4]; exact Chg.setCell (S := (· = b1)) (p := ⟨b1, 1, none⟩) (fun _ => rfl) _
  have hb4 : w4.heap[b1]? = some (.cells #[.slice none 0 0, .slice (some ⟨g', 0, none⟩) (n1 + n2) c'] 62 (0, 0)) := by rw [hw4]; exact heap_setCell w3 b1 1 _ 62 _ hb3
  have ho4 : w4.ownsRow 0 54 2 (.slice (some ⟨g', 0, none⟩) (n1 + n2) c') (n1 + n2) (kidCells d ks1 ++ kidCells d ks2) := ownsRow_chg hc4 ho' (fun x hx => by cases hx; exact hg'b)
  have hch4 : Chg (fun x => x = b1 ∨ x = g1) w w4 :=
    ((hc2.mono (fun _ _ h => .inl h)).trans ((Chg.drew (S := fun x => x = b1 ∨ x = g1) w2).trans hch (fun x _ h => by cases h; exact .inr rfl)) (fun _ _ h => h)).trans hc4 (fun _ _ h => .inl h)
  have K4 := K0.chgd hch4 (fun x hx e => by
    rcases e with e | e
    · exact q1 (e ▸ hx)
    · exact q2 (e ▸ hx)) (fun x _ e => by
    rcases e with e | e
    · exact hold x (by simp [e])
    · show x ∈ (b1 :: ([g1] ++ blocksL d ks1)) ++ _; simp [e])
  have hz := size_calls w4 b1 none (some ⟨g', 0, none⟩) 0 0 (n1 + n2) c' (cell_at hb4 0) (cell_at hb4 1) (by omega) (by omega)
  simp only [Nat.zero_add] at hz
  have hl4 : w.heap.size ≤ w4.heap.size := hch4.size
  by_cases hn4 : n1 + n2 ≤ 4
  · have hfin : ∀ m, JoinEnd (d + 1) (⟨b1, .slice (some ⟨g1, 0, none⟩) n1 c1, ks1⟩ : Inner (AT d)) (⟨b2, .slice (some ⟨g2, 0, none⟩) n2 c2, ks2⟩ : Inner (AT d)) w (.returned (.pointer none)) (w4.drewN m) := fun m =>
      join_inner_in (n := n1 + n2) (by omega) ⟨hn.1, hn4⟩ (K4.chgd (Chg.drewN (fun _ => False) w4 m) (fun _ _ e => e) (fun _ _ e => e.elim)) hg'b.symm hg'k hg'n hb4 (ownsRow_chg (Chg.drewN (fun _ => False) w4 m) ho4 (fun _ _ h => h)) (hch4.trans (Chg.drewN (fun _ => False) w4 m) (fun _ _ h => h.elim))
    have Hf := Lib.hid hfin
    have Hz := Lib.hid hz
    have Hr := Lib.hid hr
    have Hnil := Lib.hid hnil
    have H2 := Lib.hid hw2
    have H4 := Lib.hid hw4
    clear hfin hz hr hnil hw2 hw4 hc2 hb12' hb22' hc4 hb4 ho4 hch4 hb3 hch ho' hnew hb1 hb2 ho1 ho2 hcell2 K4 K0 hold hkids hK hnd q1 q2 q3 q4 ho12 ho22 hg'k hg'b hg'n hs2
    have hle : ((n1 + n2 : Nat) : Int) ≤ 4 := by omega
    unfold ptr
    go_enter Try.func39, Try.ntmps39
    go_wp2_with fail
    go_region_law (refine step_append_run rfl _ _ 58 58 rfl _ _ (by simp [Act.eval]) (by simp [Act.eval]) (Hnil.out _) ?_)
    all_goals
      go_wp2_with fail
      rw [← H2.out]
      go_region_law (refine step_append_run rfl _ _ 55 55 rfl _ _ (by simp [Act.eval]) (by simp [Act.eval]) Hr.out ?_)
    all_goals
      go_wp2_with fail
      rw [← H4.out]
      refine Hz.out.mono ?_
      rintro e w5 ⟨rfl, m, rfl⟩
      go_wp2_with fail
      go_ret
      exact Hf.out _
  · have h5 : n1 + n2 = 5 := by omega
    have Hl := Lib.hid (fun m => leaf_no (w4.drewN m) b1 (some ⟨g', 0, none⟩) (n1 + n2) c' (cell_at (w := w4.drewN m) hb4 1) (by omega))
    have Hh := Lib.hid (fun m => halve44_of (w4.drewN m) b1 1 g' c' 62 (n1 + n2) _ _ h5 hb4 rfl (ownsRow_chg (Chg.drewN (fun _ => False) w4 m) ho4 (fun _ _ h => h)))
    have HK4 := Lib.hid K4
    have Hq1 := Lib.hid q1
    have Hch4 := Lib.hid hch4
    have H5 := Lib.hid h5
    have Hz := Lib.hid hz
    have Hr := Lib.hid hr
    have Hnil := Lib.hid hnil
    have H2 := Lib.hid hw2
    have H4 := Lib.hid hw4
    clear h5 hz hr hnil hw2 hw4 hc2 hb12' hb22' hc4 hb4 ho4 hch4 hb3 hch ho' hnew hb1 hb2 ho1 ho2 hcell2 K4 K0 hkids hK hnd q1 q2 q3 q4 ho12 ho22 hg'k hg'b hg'n hs2
    have Hold := Lib.hid hold
    clear hold
    have hle : ¬ ((n1 + n2 : Nat) : Int) ≤ 4 := by omega
    unfold ptr
    go_enter Try.func39, Try.ntmps39
    go_wp2_with fail
    go_region_law (refine step_append_run rfl _ _ 58 58 rfl _ _ (by simp [Act.eval]) (by simp [Act.eval]) (Hnil.out _) ?_)
    all_goals
      go_wp2_with fail
      rw [← H2.out]
      go_region_law (refine step_append_run rfl _ _ 55 55 rfl _ _ (by simp [Act.eval]) (by simp [Act.eval]) Hr.out ?_)
    all_goals
      go_wp2_with fail
      rw [← H4.out]
      refine Hz.out.mono ?_
      rintro e w5 ⟨rfl, m, rfl⟩
      go_wp2_with fail
      refine (Hl.out m).mono ?_
      rintro e w5 ⟨rfl, rfl⟩
      go_wp2_with fail
      refine (Hh.out m).mono ?_
      rintro e w6 ⟨v1, v2, k1, k2, rfl, hq1, hq2, hb6, hch6, hv1, hv2, hk1, hk2, h12⟩
      obtain ⟨d1, hf1, -, -⟩ := ownsRow_form hq1 hv1
      obtain ⟨d2, hf2, -, -⟩ := ownsRow_form hq2 hv2
      subst hf1
      subst hf2
      have hl1 : k1 < w6.heap.size := (hq1.lt k1 hv1).2
      have hl2 : k2 < w6.heap.size := (hq2.lt k2 hv2).2
      have hl6 : w4.heap.size ≤ w6.heap.size := hch6.size
      replace hk1 : w4.heap.size ≤ k1 := hk1
      replace hk2 : w4.heap.size ≤ k2 := hk2
      have hM : ∀ x ∈ b1 :: blocksL d (ks1 ++ ks2), x < w4.heap.size := fun x hx => by
        rcases List.mem_cons.1 hx with e | hx
        · omega
        · exact HK4.out.lt x hx
      have K6 := ((HK4.out.chgd (Chg.drewN (fun _ => False) w4 m) (fun _ _ e => e) (fun _ _ e => e.elim)).chgd hch6 (fun x hx e => Hq1.out (e ▸ hx)) (fun x _ e => Hold.out x (by simp [show x = b1 from e]))).chgd
        (Chg.alloc (S := fun _ => False) w6 (.cells #[.slice none 0 0, .slice (some ⟨k2, 0, none⟩) 3 d2] 62 (0, 0))) (fun _ _ e => e) (fun _ _ e => e.elim)
      have hfin := join_inner_split (N := w6.heap.size) (M := w4.heap.size) (by rw [h1, h2]; exact H5.out) K6 ((heap_alloc_old w6 _ (by omega)).trans hb6) (heap_alloc_new w6 _) (hq1.alloc _) (hq2.alloc _)
        ⟨hk1, hk2, hl6, h12, by omega, by omega⟩ hM hl4 (((Hch4.out.trans (Chg.drewN (fun _ => False) w4 m) (fun _ _ h => h.elim)).trans hch6 (fun _ _ h => .inl h)).trans (Chg.alloc (S := fun _ => False) _ _) (fun _ _ h => h.elim))
      have Hf := Lib.hid hfin
      clear hfin hq1 hq2 hb6 hch6 hv1 hv2 K6 hM
      go_wp2_with fail
      go_ret
      exact Hf.out

end Go.Proofs.Ytempbaflcbmcpaa
