/- (*node).put at a leaf: the walk. -/
import Derived.Test.YtempbaflcbmcpaaU
namespace Go.Proofs.Ytempbaflcbmcpaa
open Go.RowKit

set_option maxRecDepth 100000 in
set_option maxHeartbeats 1000000 in
theorem put_leafN (w : World) (lo b n c : Nat) (p : Option Addr) (kv : KV) (k v : ByteArray) (hkn : kv.length = n)
    (hb : w.heap[b]? = some (.cells #[.slice p n c, .slice none 0 0] 62 (0, 0))) (ho : w.ownsRow 0 65 2 (.slice p n c) n (leafCells kv)) (hw1 : lo ≤ n) (hw2 : n ≤ 4)
    (hs : Srt kv) (hnd : (AT.blocks 0 (⟨b, .slice p n c, kv⟩ : Leaf)).Nodup) (hlo : lo ≤ 2) :
    Calls Try.prog 28 #[ptr b, .string k, .string v] w (PutEnd lo 0 (⟨b, .slice p n c, kv⟩ : Leaf) k v w) := by
  have hbl := lt_of_heap hb
  have h1c : w.cell? ⟨b, 1, none⟩ = some (.slice none 0 0) := cell_at hb 1
  have h0c : w.cell? ⟨b, 0, none⟩ = some (.slice p n c) := cell_at hb 0
  have Hp := Lib.hid (place23 w b 0 n _ (leafCells kv) k h0c ho (fun i h => ⟨_, leafCells_key kv i (by omega)⟩) (by omega))
  have Hb := Lib.hid hb
  have Ho := Lib.hid ho
  have Hs := Lib.hid hs
  have Hnd := Lib.hid hnd
  have Hkn := Lib.hid hkn
  clear hb ho hs hnd hkn
  unfold ptr
  go_enter Try.func28, Try.ntmps28
  go_wp2_with (go_at_call 21; refine (leaf_yes _ _ _ _ h1c).mono ?_; rintro e w' ⟨rfl, rfl⟩)
  refine Hp.out.mono ?_
  rintro e w1 ⟨i, hse, rfl, hb1⟩
  have hpos := leaf_pos Hs.out (i := i) (k := k) (by rw [Hkn.out]; exact hse)
  have hbw1 : w1.heap[b]? = some (.cells #[.slice p n c, .slice none 0 0] 62 (0, 0)) := Below.at hb1 Hb.out
  have how1 : w1.ownsRow 0 65 2 (.slice p n c) n (leafCells kv) := ownsRow_below hb1 Ho.out
  have h0c1 : w1.cell? ⟨b, 0, none⟩ = some (.slice p n c) := cell_at hbw1 0
  have hfr1 : w1.frozen? ⟨b, 0, none⟩ = false := free_at hbw1 0
  have hil : i ≤ n := by have := hpos.1; rw [Hkn.out] at this; exact this
  have Hpos := Lib.hid hpos
  have Hb1 := Lib.hid hb1
  have Hbw1 := Lib.hid hbw1
  have How1 := Lib.hid how1
  clear hpos hb1 hbw1 how1 hse h1c h0c
  by_cases hlt : i < n
  · obtain ⟨g, cap, hf, hnc, hcm, hcell⟩ := row_form How1.out (by omega)
    cases hf
    have hk2 : w1.cell? ⟨g, i * 2, none⟩ = some (.string (kv[i]'(Hkn.out ▸ hlt)).1) := hcell _ _ (leafCells_key kv i (Hkn.out ▸ hlt))
    cases heq : ((kv[i]'(Hkn.out ▸ hlt)).1.toList == k.toList)
    · have Hn : Hid (∀ h : i < kv.length, kv[i].1 ≠ k) := fun h e => by rw [e] at heq; simp at heq
      clear hcell
      have hsz1 : w.heap.size ≤ w1.heap.size := Hb1.out.size
      go_wp2_with fail
      have how2 := (How1.out.alloc (.cells #[.string k, .string v] 65 (0, 0)))
      have hbo : ∀ y, (Value.slice (some ⟨g, 0, none⟩) n c).ownBlock = some y → y ≠ b ∧ y < w.heap.size := fun y hy => by
        refine ⟨fun e => ?_, (Ho.out.lt y hy).2⟩
        have := Hnd.out
        simp [AT.blocks, hy, e] at this
      have HI := insert42 (w1.alloc (.cells #[.string k, .string v] 65 (0, 0))) n i w1.heap.size _ (leafCells kv) (.string k) (.string v) how2 (heap_alloc_new w1 _) (fun e => by have := (hbo _ e).2; omega) hil (by omega) rfl rfl (leafCells_one kv)
      refine HI.mono ?_
      rintro e w2 ⟨v', rfl, ho2, hch2, hnew2⟩
      have hch12 : Chg (fun x => (Value.slice (some ⟨g, 0, none⟩) n c).ownBlock = some x) w w2 :=
        ((below_chg Hb1.out).mono (fun _ _ h => h.elim)).trans ((Chg.alloc (S := fun x => (Value.slice (some ⟨g, 0, none⟩) n c).ownBlock = some x) w1 _).trans hch2 (fun _ _ h => h)) (fun _ _ h => h)
      have hbw2 : w2.heap[b]? = some (.cells #[.slice (some ⟨g, 0, none⟩) n c, .slice none 0 0] 62 (0, 0)) := hch12.at Hb.out (fun e => (hbo b e).1 rfl)
      obtain ⟨g', cap', hf', hnc', hcm', -⟩ := row_form ho2 (by omega)
      subst hf'
      have hg'b : g' ≠ b := by
        rcases hnew2 g' rfl with h | h
        · exact (hbo g' h).1
        · simp at h; omega
      have hnew2' : (Value.slice (some ⟨g, 0, none⟩) n c).ownBlock = some g' ∨ w.heap.size ≤ g' := (hnew2 g' rfl).imp id (fun h => by simp at h; omega)
      have h0c2 : w2.cell? ⟨b, 0, none⟩ = some (.slice (some ⟨g, 0, none⟩) n c) := cell_at hbw2 0
      have hfr2 : w2.frozen? ⟨b, 0, none⟩ = false := free_at hbw2 0
      have hc3 : Chg (· = b) w2 (w2.setCell ⟨b, 0, none⟩ (.slice (some ⟨g', 0, none⟩) (n + 1) cap')) := Chg.setCell (S := (· = b)) (p := ⟨b, 0, none⟩) (fun _ => rfl) _
      have hb3 : (w2.setCell ⟨b, 0, none⟩ (.slice (some ⟨g', 0, none⟩) (n + 1) cap')).heap[b]? = some (.cells #[.slice (some ⟨g', 0, none⟩) (n + 1) cap', .slice none 0 0] 62 (0, 0)) := heap_setCell w2 b 0 _ 62 _ hbw2
      have ho3 := ownsRow_chg hc3 ho2 (fun x hx => by cases hx; exact hg'b)
      have hch3 : Chg (fun x => x = b ∨ (Value.slice (some ⟨g, 0, none⟩) n c).ownBlock = some x) w (w2.setCell ⟨b, 0, none⟩ (.slice (some ⟨g', 0, none⟩) (n + 1) cap')) :=
        (hch12.mono (fun _ _ h => .inr h)).trans hc3 (fun _ _ h => .inl h)
      have hs2 : w.heap.size ≤ w2.heap.size := hch12.size
      by_cases hn4 : n < 4
      · have hfin := put_leaf_in (w := w) (lo := lo) (tv := .slice (some ⟨g, 0, none⟩) n c) hb3 (by rw [Hkn.out]; exact ho3) (fun x hx => by cases hx; exact hg'b) (fun x hx => by cases hx; exact hnew2') ⟨by rw [Hkn.out]; exact hw1, by rw [Hkn.out]; exact hn4⟩ Hs.out Hpos.out Hn.out hch3
        have Hf := Lib.hid hfin
        clear hfin hch3 ho3 hb3 hc3 hch12 hch2 ho2 hbo HI how2 hbw2 hnew2 hnew2'
        go_wp2_with fail
        go_ret2
        exact Hf.out
      · obtain rfl : n = 4 := by omega
        have HH := halve43 _ b 0 g' cap' 62 _ _ hb3 rfl ho3
        have Hch3 := Lib.hid hch3
        have HHi := Lib.hid HH
        have Hg := Lib.hid hg'b
        clear hch3 ho3 hb3 hc3 hch12 hch2 ho2 hbo HI how2 hbw2 hnew2 hnew2' HH hg'b
        go_wp2_with fail
        refine HHi.out.mono ?_
        rintro e w4 ⟨v1, v2, k1, k2, rfl, hq1, hq2, hb4, hch4, hv1, hv2, hk1, hk2, h12⟩
        obtain ⟨cap2, rfl, -, -⟩ := ownsRow_form hq2 hv2
        have hk1s := (hq1.lt k1 hv1).2
        have hk2s : k2 < w4.heap.size := (hq2.lt k2 rfl).2
        have hs4 := hch4.size
        simp only [World.size_setCell] at hk1 hk2 hs4
        replace hk2 : w2.heap.size ≤ k2 := hk2
        replace h12 : k1 ≠ k2 := h12
        have hfin := put_leaf_split (w := w) (lo := lo) (w5 := w4.alloc (.cells #[.slice (some ⟨k2, 0, none⟩) 3 cap2, .slice none 0 0] 62 (0, 0))) (tv := .slice (some ⟨g, 0, none⟩) 4 c) (N := w4.heap.size) (k1 := k1) (k2 := k2)
          ((heap_alloc_old w4 _ (by omega)).trans hb4) (heap_alloc_new w4 _) (hq1.alloc _) (hq2.alloc _) hv1 rfl (by omega) (by omega) h12 (by omega) (by omega) (by omega) hbl hlo Hkn.out Hs.out Hpos.out Hn.out
          ((Hch3.out.trans hch4 (fun _ _ h => .inl h)).trans (Chg.alloc (S := fun _ => False) _ _) (fun _ _ h => h.elim))
        have Hf := Lib.hid hfin
        clear hfin hq1 hq2 hb4 hch4
        go_wp2_with fail
        go_ret2
        exact Hf.out
    · have Heq : Hid ((kv[i]'(Hkn.out ▸ hlt)).1 = k) := toList_inj (by simpa using heq)
      have hv2 : w1.cell? ⟨g, i * 2 + 1, none⟩ = some (.string (kv[i]'(Hkn.out ▸ hlt)).2) := hcell _ _ (leafCells_val kv i (Hkn.out ▸ hlt))
      have hfg : w1.frozen? ⟨g, i * 2 + 1, none⟩ = false := by
        rcases How1.out.2 with ⟨h, _⟩ | ⟨g', _, _, h, _, hg, _⟩
        · cases h
        · cases h; exact free_at hg _
      clear hcell
      have hbg : b ≠ g := by
        have := Hnd.out
        simp [AT.blocks, Value.ownBlock] at this
        exact this
      have Hf := Lib.hid (put_leaf_found (w := w) (v := v) Hkn.out.symm Hbw1.out How1.out hbg ⟨hw1, hw2⟩ Hs.out Hpos.out (Hkn.out ▸ hlt) Heq.out Hb1.out)
      go_wp2
      go_ret2
      exact Hf.out
  · have Hn : Hid (∀ h : i < kv.length, kv[i].1 ≠ k) := fun h => absurd (Hkn.out ▸ h) hlt
    have hsz1 : w.heap.size ≤ w1.heap.size := Hb1.out.size
    go_wp2_with fail
    have how2 := (How1.out.alloc (.cells #[.string k, .string v] 65 (0, 0)))
    have hbo : ∀ y, (Value.slice p n c).ownBlock = some y → y ≠ b ∧ y < w.heap.size := fun y hy => by
      refine ⟨fun e => ?_, (Ho.out.lt y hy).2⟩
      have := Hnd.out
      simp [AT.blocks, hy, e] at this
    have HI := insert42 (w1.alloc (.cells #[.string k, .string v] 65 (0, 0))) n i w1.heap.size _ (leafCells kv) (.string k) (.string v) how2 (heap_alloc_new w1 _) (fun e => by have := (hbo _ e).2; omega) hil (by omega) rfl rfl (leafCells_one kv)
    refine HI.mono ?_
    rintro e w2 ⟨v', rfl, ho2, hch2, hnew2⟩
    have hch12 : Chg (fun x => (Value.slice p n c).ownBlock = some x) w w2 :=
      ((below_chg Hb1.out).mono (fun _ _ h => h.elim)).trans ((Chg.alloc (S := fun x => (Value.slice p n c).ownBlock = some x) w1 _).trans hch2 (fun _ _ h => h)) (fun _ _ h => h)
    have hbw2 : w2.heap[b]? = some (.cells #[.slice p n c, .slice none 0 0] 62 (0, 0)) := hch12.at Hb.out (fun e => (hbo b e).1 rfl)
    obtain ⟨g', cap', hf', hnc', hcm', -⟩ := row_form ho2 (by omega)
    subst hf'
    have hg'b : g' ≠ b := by
      rcases hnew2 g' rfl with h | h
      · exact (hbo g' h).1
      · simp at h; omega
    have hnew2' : (Value.slice p n c).ownBlock = some g' ∨ w.heap.size ≤ g' := (hnew2 g' rfl).imp id (fun h => by simp at h; omega)
    have h0c2 : w2.cell? ⟨b, 0, none⟩ = some (.slice p n c) := cell_at hbw2 0
    have hfr2 : w2.frozen? ⟨b, 0, none⟩ = false := free_at hbw2 0
    have hc3 : Chg (· = b) w2 (w2.setCell ⟨b, 0, none⟩ (.slice (some ⟨g', 0, none⟩) (n + 1) cap')) := Chg.setCell (S := (· = b)) (p := ⟨b, 0, none⟩) (fun _ => rfl) _
    have hb3 : (w2.setCell ⟨b, 0, none⟩ (.slice (some ⟨g', 0, none⟩) (n + 1) cap')).heap[b]? = some (.cells #[.slice (some ⟨g', 0, none⟩) (n + 1) cap', .slice none 0 0] 62 (0, 0)) := heap_setCell w2 b 0 _ 62 _ hbw2
    have ho3 := ownsRow_chg hc3 ho2 (fun x hx => by cases hx; exact hg'b)
    have hch3 : Chg (fun x => x = b ∨ (Value.slice p n c).ownBlock = some x) w (w2.setCell ⟨b, 0, none⟩ (.slice (some ⟨g', 0, none⟩) (n + 1) cap')) :=
      (hch12.mono (fun _ _ h => .inr h)).trans hc3 (fun _ _ h => .inl h)
    have hs2 : w.heap.size ≤ w2.heap.size := hch12.size
    by_cases hn4 : n < 4
    · have hfin := put_leaf_in (w := w) (lo := lo) (tv := .slice p n c) hb3 (by rw [Hkn.out]; exact ho3) (fun x hx => by cases hx; exact hg'b) (fun x hx => by cases hx; exact hnew2') ⟨by rw [Hkn.out]; exact hw1, by rw [Hkn.out]; exact hn4⟩ Hs.out Hpos.out Hn.out hch3
      have Hf := Lib.hid hfin
      clear hfin hch3 ho3 hb3 hc3 hch12 hch2 ho2 hbo HI how2 hbw2 hnew2 hnew2'
      go_wp2_with fail
      go_ret2
      exact Hf.out
    · obtain rfl : n = 4 := by omega
      have HH := halve43 _ b 0 g' cap' 62 _ _ hb3 rfl ho3
      have Hch3 := Lib.hid hch3
      have HHi := Lib.hid HH
      have Hg := Lib.hid hg'b
      clear hch3 ho3 hb3 hc3 hch12 hch2 ho2 hbo HI how2 hbw2 hnew2 hnew2' HH hg'b
      go_wp2_with fail
      refine HHi.out.mono ?_
      rintro e w4 ⟨v1, v2, k1, k2, rfl, hq1, hq2, hb4, hch4, hv1, hv2, hk1, hk2, h12⟩
      obtain ⟨cap2, rfl, -, -⟩ := ownsRow_form hq2 hv2
      have hk1s := (hq1.lt k1 hv1).2
      have hk2s : k2 < w4.heap.size := (hq2.lt k2 rfl).2
      have hs4 := hch4.size
      simp only [World.size_setCell] at hk1 hk2 hs4
      replace hk2 : w2.heap.size ≤ k2 := hk2
      replace h12 : k1 ≠ k2 := h12
      have hfin := put_leaf_split (w := w) (lo := lo) (w5 := w4.alloc (.cells #[.slice (some ⟨k2, 0, none⟩) 3 cap2, .slice none 0 0] 62 (0, 0))) (tv := .slice p 4 c) (N := w4.heap.size) (k1 := k1) (k2 := k2)
        ((heap_alloc_old w4 _ (by omega)).trans hb4) (heap_alloc_new w4 _) (hq1.alloc _) (hq2.alloc _) hv1 rfl (by omega) (by omega) h12 (by omega) (by omega) (by omega) hbl hlo Hkn.out Hs.out Hpos.out Hn.out
        ((Hch3.out.trans hch4 (fun _ _ h => .inl h)).trans (Chg.alloc (S := fun _ => False) _ _) (fun _ _ h => h.elim))
      have Hf := Lib.hid hfin
      clear hfin hq1 hq2 hb4 hch4
      go_wp2_with fail
      go_ret2
      exact Hf.out

theorem put_leaf (w : World) (lo : Nat) (t : Leaf) (k v : ByteArray) (hl : Lies w 0 t) (hw : WF lo 0 t) (hs : Srt t.kv) (hnd : (AT.blocks 0 t).Nodup) (hlo : lo ≤ 2) :
    Calls Try.prog 28 #[ptr t.b, .string k, .string v] w (PutEnd lo 0 t k v w) := by
  obtain ⟨b, tv, kv⟩ := t
  obtain ⟨hb, ho⟩ := hl
  replace ho : w.ownsRow 0 65 2 tv kv.length (leafCells kv) := ho
  obtain ⟨p, c, hv⟩ := slice_form ho
  subst hv
  exact put_leafN w lo b kv.length c p kv k v rfl hb ho hw.1 hw.2 hs hnd hlo

end Go.Proofs.Ytempbaflcbmcpaa
