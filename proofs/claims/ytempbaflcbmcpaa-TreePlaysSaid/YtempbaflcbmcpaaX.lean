/- (*node).put at an inner node: the walk. -/
import Derived.Test.YtempbaflcbmcpaaW
import Derived.Test.YtempbaflcbmcpaaV
import Derived.Test.YtempbaflcbmcpaaJ
namespace Go.Proofs.Ytempbaflcbmcpaa
open Go.RowKit

def PutCalls (d : Nat) : Prop := ∀ (w : World) (lo : Nat) (t : AT d) (k v : ByteArray), Lies w d t → WF lo d t → Srt (AT.toL d t) → (AT.blocks d t).Nodup → lo ≤ 2 → (0 < d → 1 ≤ lo) →
  Calls Try.prog 28 #[ptr (AT.b d t), .string k, .string v] w (PutEnd lo d t k v w)

set_option maxRecDepth 100000 in
set_option maxHeartbeats 1000000 in
theorem put_innerN (d : Nat) (ih : PutCalls d) (w : World) (lo b g n c : Nat) (ks : List (ByteArray × AT d)) (k v : ByteArray) (hkn : ks.length = n)
    (hb : w.heap[b]? = some (.cells #[.slice none 0 0, .slice (some ⟨g, 0, none⟩) n c] 62 (0, 0))) (ho : w.ownsRow 0 54 2 (.slice (some ⟨g, 0, none⟩) n c) n (kidCells d ks))
    (hkids : ∀ x ∈ ks, Lies w d x.2 ∧ WF 2 d x.2) (hK : Keyed (segsOf d ks)) (hw1 : lo ≤ n) (hw2 : n ≤ 4) (hn0 : 0 < n)
    (hs : Srt (segs (segsOf d ks))) (hnd : (b :: g :: blocksL d ks).Nodup) (hlo : lo ≤ 2) :
    Calls Try.prog 28 #[ptr b, .string k, .string v] w (PutEnd lo (d + 1) (⟨b, .slice (some ⟨g, 0, none⟩) n c, ks⟩ : Inner (AT d)) k v w) := by
  have hbl := lt_of_heap hb
  have hgl : g < w.heap.size := (ho.lt g rfl).2
  have h1c : w.cell? ⟨b, 1, none⟩ = some (.slice (some ⟨g, 0, none⟩) n c) := cell_at hb 1
  have Hu := Lib.hid (under22 w b 1 n g c (kidCells d ks) k h1c ho (fun i h => ⟨_, kidCells_key d ks i (by omega)⟩) (by omega))
  have Hb := Lib.hid hb
  have Ho := Lib.hid ho
  have Hs := Lib.hid hs
  have Hnd := Lib.hid hnd
  have Hkn := Lib.hid hkn
  have Hkids := Lib.hid hkids
  have HK := Lib.hid hK
  have Hih := Lib.hid ih
  clear hb ho hs hnd hkn hkids hK ih
  unfold ptr
  go_enter Try.func28, Try.ntmps28
  go_wp2_with (go_at_call 21; refine (leaf_no _ _ _ _ _ h1c hn0).mono ?_; rintro e w' ⟨rfl, rfl⟩)
  refine Hu.out.mono ?_
  rintro e w1 ⟨k0, u, hse, hu, rfl, hb1⟩
  have hup := under_pos HK.out Hs.out (by rw [Hkn.out]; exact hn0) k k0 u (by rw [Hkn.out]; exact hse) (by rw [Hkn.out]; exact hu)
  obtain ⟨A, C, kk, kid, hks, hAu, hlA, hgC⟩ : ∃ A C kk kid, ks = A ++ (kk, kid) :: C ∧ A.length = u ∧ (∀ x ∈ segs (segsOf d A), lt x.1 k = true) ∧ (∀ x ∈ segs (segsOf d C), lt k x.1 = true) := by
    obtain ⟨h1, h2, h3, h4⟩ := hup
    exact ⟨ks.take u, ks.drop (u + 1), ks[u].1, ks[u].2, h2, by rw [List.length_take]; omega, h3, h4⟩
  clear hup hse hu
  subst hks
  have hul : u < n := by have := Hkn.out; simp at this; omega
  have hbw1 : w1.heap[b]? = some (.cells #[.slice none 0 0, .slice (some ⟨g, 0, none⟩) n c] 62 (0, 0)) := Below.at hb1 Hb.out
  have how1 := ownsRow_below hb1 Ho.out
  have h1c1 : w1.cell? ⟨b, 1, none⟩ = some (.slice (some ⟨g, 0, none⟩) n c) := cell_at hbw1 1
  obtain ⟨g0, cap0, hf0, hnc, hcm, hcell⟩ := row_form how1 hn0
  cases hf0
  have hv2 : w1.cell? ⟨g, u * 2 + 1, none⟩ = some (.pointer (some ⟨AT.b d kid, 0, none⟩)) := by
    have := hcell _ _ (kidCells_val d (A ++ (kk, kid) :: C) u (by rw [Hkn.out]; exact hul))
    subst hAu
    simpa [ptr] using this
  have hkid := Hkids.out (kk, kid) (by simp)
  have hkl1 : Lies w1 d kid := hkid.1.chg (below_chg hb1) d kid (fun _ _ h => h)
  have hndk : (AT.blocks d kid).Nodup := by
    have := Hnd.out
    rw [blocksL_append, blocksL_cons, List.nodup_cons, List.nodup_cons, List.nodup_append, List.nodup_append] at this
    exact this.2.2.2.1.1
  have hsk : Srt (AT.toL d kid) := by
    have := Hs.out
    rw [segsOf_append, segsOf_cons, segs_append, segs_cons] at this
    unfold Srt at this ⊢
    rw [List.pairwise_append, List.pairwise_append] at this
    exact this.2.1.1
  have Hi := Lib.hid (Hih.out w1 2 kid k v hkl1 hkid.2 hsk hndk (Nat.le_refl _) (fun _ => by omega))
  have Hb1 := Lib.hid hb1
  have How1 := Lib.hid how1
  have Hbw1 := Lib.hid hbw1
  have Hcell := Lib.hid hcell
  have HlA := Lib.hid hlA
  have HgC := Lib.hid hgC
  have HAu := Lib.hid hAu
  clear hb1 how1 hbw1 hcell hlA hgC hAu hkid hkl1 hndk hsk h1c
  unfold ptr at Hi
  go_wp2_with fail
  refine Hi.out.mono ?_
  rintro e w2 ⟨kid', r, he, hkb, hkl2, hkw2, hrl2, heq2, hnd2, hnew2, hch2⟩
  have hbkid : ∀ x ∈ AT.blocks d kid, x ≠ b ∧ x ≠ g ∧ x ∉ blocksL d A ∧ x ∉ blocksL d C := by
    intro x hx
    have := Hnd.out
    rw [blocksL_append, blocksL_cons, List.nodup_cons, List.nodup_cons, List.nodup_append, List.nodup_append] at this
    obtain ⟨h1, h2, -, ⟨-, -, h3⟩, h4⟩ := this
    refine ⟨fun e => h1 (by simp [← e, hx]), fun e => h2 (by simp [← e, hx]), fun hA => h4 x hA x (by simp [hx]) rfl, fun hC => h3 x hx x hC rfl⟩
  have hbw2 : w2.heap[b]? = some (.cells #[.slice none 0 0, .slice (some ⟨g, 0, none⟩) n c] 62 (0, 0)) := hch2.at Hbw1.out (fun h => (hbkid b h).1 rfl)
  have how2 : w2.ownsRow 0 54 2 (.slice (some ⟨g, 0, none⟩) n c) n (kidCells d (A ++ (kk, kid) :: C)) := ownsRow_chg hch2 How1.out (fun x hx h => by cases hx; exact (hbkid g h).2.1 rfl)
  obtain ⟨g0, cap0, hf0, -, -, hcell2⟩ := row_form how2 hn0
  cases hf0
  have h1c2 : w2.cell? ⟨b, 1, none⟩ = some (.slice (some ⟨g, 0, none⟩) n c) := cell_at hbw2 1
  have hkey2 : w2.cell? ⟨g, u * 2, none⟩ = some (.string kk) := by
    have := hcell2 _ _ (kidCells_key d (A ++ (kk, kid) :: C) u (by rw [Hkn.out]; exact hul))
    have e := HAu.out
    subst e
    simpa using this
  have hfg2 : w2.frozen? ⟨g, u * 2, none⟩ = false := by
    rcases how2.2 with ⟨h, _⟩ | ⟨g', _, _, h, _, hg, _⟩
    · cases h
    · cases h; exact free_at hg _
  have hget : get k (AT.toL d kid) = get k (segs (segsOf d (A ++ (kk, kid) :: C))) := by
    rw [segsOf_append, segsOf_cons, segs_append, segs_cons, get_mid k _ _ _ HlA.out HgC.out]
  rw [hget] at he
  have hmid := mid_mk (lo := lo) Hkn.out Hkids.out HK.out ⟨hw1, hw2, hlo⟩ Hnd.out HlA.out HgC.out hbl hgl Hb1.out hbw2 how2 hkb hkl2 hkw2 hrl2 heq2 hnd2 hnew2 hch2
  rw [HAu.out] at hmid
  have Hmid := Lib.hid hmid
  have Hfi := Lib.hid (first_calls w2.drew d kid' (hkl2.chg (Chg.drew (fun _ => False) _) d kid' (fun _ _ h => h)) (WF.mono (by omega) _ _ hkw2))
  unfold ptr at Hfi
  rw [hkb] at Hfi
  clear hmid hcell2 hbw2 how2 hkb hkl2 hkw2 hrl2 heq2 hnd2 hnew2 hch2 hbkid hget
  obtain ⟨gb, hgb⟩ : ∃ gb, gb = (get k (segs (segsOf d (A ++ (kk, kid) :: C)))).isSome := ⟨_, rfl⟩
  rw [← hgb] at he
  have Hgb := Lib.hid hgb; clear hgb
  cases r with
  | none =>
    replace he : e = .returned (.tuple #[.pointer none, .bool gb]) := he
    subst he
    have Hf := Lib.hid (put_inner_none Hmid.out)
    rw [← Hgb.out] at Hf
    go_wp2_with fail
    refine wp_region_still_tail 10 (by kernel_rfl) (by kernel_rfl) ?_
    simp only [World.drew_eq, List.take_succ_cons, List.take_zero, List.drop_succ_cons, List.drop_zero]
    repeat still_step
    still_call (Hfi.out.mono fun e w9 h => ⟨h.1, h.2.symm⟩)
    repeat still_step
    refine wpStill_nil ?_
    go_wp2_with fail
    go_ret2
    exact Hf.out
  | some r =>
    replace he : e = .returned (.tuple #[.pointer (some ⟨AT.b d r, 0, none⟩), .bool gb]) := he
    subst he
    go_wp2_with fail
    refine wp_region_still_tail 10 (by kernel_rfl) (by kernel_rfl) ?_
    simp only [World.drew_eq, List.take_succ_cons, List.take_zero, List.drop_succ_cons, List.drop_zero]
    repeat still_step
    still_call (Hfi.out.mono fun e w9 h => ⟨h.1, h.2.symm⟩)
    repeat still_step
    refine wpStill_nil ?_
    obtain ⟨W3, hW3⟩ : ∃ W3, W3 = (w2.setCell ⟨g, u * 2, none⟩ (.string (headKey d kid'))).drew := ⟨_, rfl⟩
    have hm3 : Mid lo d b g n c A C kk kid kid' (some r) k v w W3 := by rw [hW3]; exact Hmid.out
    have Hm3 := Lib.hid hm3
    have HW3 := Lib.hid hW3
    have h1c3 : W3.cell? ⟨b, 1, none⟩ = some (.slice (some ⟨g, 0, none⟩) n c) := cell_at hm3.hb 1
    have hbn3 : b < W3.heap.size := lt_of_heap hm3.hb
    have hgb3 : g ≠ b := by
      have := hm3.nodup
      rw [List.nodup_cons] at this
      exact fun e => this.1 (by simp [e])
    have hw13 : IntKind.i64.wrap ((u : Int) + 1) = (u : Int) + 1 := IntWalk.i64_in _ (by omega)
    have Hfr := Lib.hid (first_calls W3.drew d r ((hm3.hr r rfl).1.chg (Chg.drew (fun _ => False) _) d r (fun _ _ h => h)) (WF.mono (by omega) _ _ (hm3.hr r rfl).2))
    have HI := insert41 (W3.drew.alloc (.cells #[.string (headKey d r), ptr (AT.b d r)] 54 (0, 0))) n (u + 1) W3.heap.size _ _ (.string (headKey d r)) (ptr (AT.b d r))
      ((ownsRow_chg (Chg.drew (fun _ => False) W3) hm3.ho (fun _ _ h => h)).alloc _) (heap_alloc_new W3.drew _) (fun e => by have := (hm3.ho.lt _ e).2; omega) (by omega) (by omega) rfl rfl (kidCells_one d _)
    rw [show (((u + 1 : Nat)) : Int) = (u : Int) + 1 by omega] at HI
    unfold ptr at HI Hfr
    have Hin := Lib.hid HI
    clear hW3 hm3 HI
    go_wp2_with fail
    rw [← HW3.out]
    by_cases hn4 : n < 4
    · have hle4 : (n : Int) + 1 ≤ 4 := by omega
      go_region_law (first | (go_simp; go_at_call 29; refine Hfr.out.mono ?_; rintro e w9 ⟨rfl, rfl⟩) | (go_simp; go_at_call 41; refine Hin.out.mono ?_; rintro e w4 ⟨v', rfl, ho4, hch4, hnew4⟩; obtain ⟨g4, cap4, hv4, -, -, -⟩ := row_form ho4 (by omega); subst hv4; rw [← HAu.out] at ho4; have hmi := mid_in Hm3.out hbl ho4 hch4 ((hnew4 g4 rfl).imp (fun h => by cases h; rfl) id); have h1c4 := cell_at hmi.1 1; have hfr4 := free_at hmi.1 1; have Hmi := Lib.hid hmi.2; clear hmi ho4 hch4 hnew4))
      all_goals
        have Hf := Lib.hid (put_end_in Hm3.out hn4 Hmi.out)
        rw [← Hgb.out] at Hf
        have h1c5 := cell_at Hmi.out.hb 1
        go_wp2_with fail
        go_ret2
        exact Hf.out
    · have hn5 : Hid (n = 4) := by show n = 4; omega
      have hle4 : ¬ ((n : Int) + 1 ≤ 4) := by omega
      go_region_law (first | (go_simp; go_at_call 29; refine Hfr.out.mono ?_; rintro e w9 ⟨rfl, rfl⟩) | (go_simp; go_at_call 41; refine Hin.out.mono ?_; rintro e w4 ⟨v', rfl, ho4, hch4, hnew4⟩; obtain ⟨g4, cap4, hv4, -, -, -⟩ := row_form ho4 (by omega); subst hv4; rw [← HAu.out] at ho4; have hmi := mid_in Hm3.out hbl ho4 hch4 ((hnew4 g4 rfl).imp (fun h => by cases h; rfl) id); have h1c4 := cell_at hmi.1 1; have hfr4 := free_at hmi.1 1; have Hmi := Lib.hid hmi.2; clear hmi ho4 hch4 hnew4))
      all_goals
        have h1c5 := cell_at Hmi.out.hb 1
        have hq := Hmi.out.hb
        have hqo := Hmi.out.ho
        have HH := Lib.hid (halve44_of _ b 1 g4 cap4 62 (n + 1) _ _ (by rw [hn5.out]) hq rfl hqo)
        clear hq hqo
        go_wp2_with fail
        refine HH.out.mono ?_
        rintro e w6 ⟨v1, v2, k1, k2, rfl, hq1, hq2, hb6, hch6, hv1, hv2, hk1, hk2, h12⟩
        obtain ⟨c1, hf1, -, -⟩ := ownsRow_form hq1 hv1
        obtain ⟨c2, hf2, -, -⟩ := ownsRow_form hq2 hv2
        subst hf1
        subst hf2
        have Hf := Lib.hid (put_end_split Hm3.out hn5.out hbl Hmi.out hq1 hq2 hb6 hch6 hk1 hk2 h12 rfl rfl)
        rw [← Hgb.out] at Hf
        clear hq1 hq2 hb6 hch6 hv1 hv2 hk1 hk2 h12 h1c5
        go_wp2_with fail
        go_ret2
        exact Hf.out

theorem put_inner (d : Nat) (ih : PutCalls d) (w : World) (lo : Nat) (t : Inner (AT d)) (k v : ByteArray) (hl : Lies w (d + 1) t) (hw : WF lo (d + 1) t) (hs : Srt (AT.toL (d + 1) t)) (hnd : (AT.blocks (d + 1) t).Nodup) (hlo : lo ≤ 2) (hlo1 : 1 ≤ lo) :
    Calls Try.prog 28 #[ptr t.b, .string k, .string v] w (PutEnd lo (d + 1) t k v w) := by
  rw [toL_inner] at hs
  obtain ⟨b, tv, ks⟩ := t
  obtain ⟨hb, ho, hkl⟩ := hl
  replace ho : w.ownsRow 0 54 2 tv ks.length (kidCells d ks) := ho
  obtain ⟨hw1, hw2, hw3, hw4⟩ := hw
  replace hw1 : lo ≤ ks.length := hw1
  obtain ⟨g, c, hv, -, -, -⟩ := row_form ho (by omega)
  subst hv
  exact put_innerN d ih w lo b g ks.length c ks k v rfl hb ho (fun x hx => ⟨hkl x hx, hw4 x hx⟩) hw3 hw1 hw2 (by omega) hs hnd hlo

theorem put_calls : ∀ d, PutCalls d
  | 0 => fun w lo t k v hl hw hs hnd hlo _ => put_leaf w lo t k v hl hw hs hnd hlo
  | d + 1 => fun w lo t k v hl hw hs hnd hlo h1 => put_inner d (put_calls d) w lo t k v hl hw hs hnd hlo (h1 (by omega))

end Go.Proofs.Ytempbaflcbmcpaa
