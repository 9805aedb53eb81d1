/- (*row).halve at a row of five. -/
import Derived.Test.YtempbaflcbmcpaaC51
namespace Go.Proofs.Ytempbaflcbmcpaa
open Go.RowKit

set_option maxHeartbeats 400000 in
theorem halve44 (w : World) (b slot g c T : Nat) (cs : Array Value) (xs : List Value)
    (hb : w.heap[b]? = some (.cells cs T (0, 0))) (hs : cs[slot]? = some (.slice (some ⟨g, 0, none⟩) 5 c))
    (hown : w.ownsRow 0 54 2 (.slice (some ⟨g, 0, none⟩) 5 c) 5 xs) :
    Calls Try.prog 44 #[.pointer (some ⟨b, slot, none⟩)] w (HalveEnd 54 T b slot cs xs w) := by
  have hr : w.cell? ⟨b, slot, none⟩ = some (.slice (some ⟨g, 0, none⟩) 5 c) := (cell_at hb slot).trans hs
  have hbl := lt_of_heap hb
  have hcs := hown.cells (g := g) rfl
  have hgl := (hown.lt g rfl).2
  have hcell : ∀ j u, xs[j]? = some u → w.cell? ⟨g, j, none⟩ = some u := fun j u h => by have := hcs j u h; rwa [Addr.add_lit, Nat.zero_add] at this
  have hl : xs.length = 10 := hown.1
  have hc5 : 5 ≤ c := by
    rcases hown.2 with ⟨h, _⟩ | ⟨g', cap, cur, h, _, _, hn, _⟩
    · cases h
    · cases h; exact hn
  have H1 := Lib.hid (clone51 w g 4 3 (c - 2) (xs.drop 4) (by simp [hl]) (by omega) (by omega) (fun j u h => hcell _ _ (by rwa [List.getElem?_drop] at h)))
  have Hcell := Lib.hid hcell
  have Hl := Lib.hid hl
  have Hb := Lib.hid hb
  have hf : w.frozen? ⟨b, slot, none⟩ = false := free_at hb slot
  clear hcs hown hcell hl hb hs
  go_enter Try.func44, Try.ntmps44
  go_wp2_with fail
  refine H1.out.mono ?_
  rintro e w1 ⟨v2, rfl, ho2, hb1, k2, hk2, hk2'⟩
  have hr1 : w1.cell? ⟨b, slot, none⟩ = some (.slice (some ⟨g, 0, none⟩) 5 c) := (hb1.cell hbl).trans hr
  have Hc1 : Hid (∀ j u, (xs.take 4)[j]? = some u → w1.cell? ⟨g, 0 + j, none⟩ = some u) := fun j u h => by
    rw [List.getElem?_take] at h
    split at h
    · rw [Nat.zero_add]; exact (hb1.cell hgl).trans (Hcell.out j u h)
    · cases h
  have H2 := Lib.hid (clone51 w1 g 0 2 c (xs.take 4) (by simp [Hl.out]) (by omega) (by omega) Hc1.out)
  have Hb1 := Lib.hid hb1
  have Ho2 := Lib.hid ho2
  have Hk2 := Lib.hid hk2
  clear hb1 ho2 hk2 hr
  go_wp2_with fail
  refine H2.out.mono ?_
  rintro e w2 ⟨v1, rfl, ho1, hb2, k1, hk1, hk1'⟩
  obtain ⟨cap1, rfl, -, -⟩ := ownsRow_form ho1 hk1
  have hs1 := Hb1.out.size
  have hbl1 : b < w1.heap.size := by omega
  have hr2 : w2.cell? ⟨b, slot, none⟩ = some (.slice (some ⟨g, 0, none⟩) 5 c) := (hb2.cell hbl1).trans hr1
  have hf2 : w2.frozen? ⟨b, slot, none⟩ = false := by
    have := Hb1.out.frozen (p := ⟨b, slot, none⟩) hbl
    rw [hb2.frozen (p := ⟨b, slot, none⟩) hbl1, this]; exact hf
  have hg2 : w2.heap[b]? = some (.cells cs T (0, 0)) := Below.at hb2 (Below.at Hb1.out Hb.out)
  have hk2s := (Ho2.out.lt k2 Hk2.out).2
  have hfin : HalveEnd 54 T b slot cs xs w (.returned v2) (w2.setCell ⟨b, slot, none⟩ (.slice (some ⟨k1, 0, none⟩) 2 cap1)) := by
    have hch : Chg (· = b) w2 (w2.setCell ⟨b, slot, none⟩ (.slice (some ⟨k1, 0, none⟩) 2 cap1)) := Chg.setCell (S := (· = b)) (p := ⟨b, slot, none⟩) (fun _ => rfl) _
    refine ⟨.slice (some ⟨k1, 0, none⟩) 2 cap1, v2, k1, k2, rfl, ?_, ?_, heap_setCell w2 b slot cs T _ hg2, ?_, rfl, Hk2.out, by omega, hk2', by omega⟩
    · exact ownsRow_chg hch ho1 (fun k h => by cases h; show ¬ k1 = b; omega)
    · exact ownsRow_chg hch (ownsRow_below hb2 Ho2.out) (fun k h => by rw [Hk2.out] at h; cases h; show ¬ k2 = b; omega)
    · exact ((below_chg Hb1.out).trans (below_chg hb2) (fun _ _ h => h)).mono (fun _ _ h => h.elim) |>.trans hch (fun _ _ h => h)
  have Hf := Lib.hid hfin
  clear hfin ho1 hb2 hg2 hk1
  go_wp2_with fail
  go_ret
  exact Hf.out

end Go.Proofs.Ytempbaflcbmcpaa
