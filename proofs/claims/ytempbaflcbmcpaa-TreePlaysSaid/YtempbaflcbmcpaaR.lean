/- (*node).join at any tree; (*node).drop at a leaf. -/
import Derived.Test.YtempbaflcbmcpaaL
import Derived.Test.YtempbaflcbmcpaaD37
import Derived.Test.YtempbaflcbmcpaaD40
namespace Go.Proofs.Ytempbaflcbmcpaa
open Go.RowKit

theorem join_calls (d : Nat) (w : World) (l r : AT d) (hl : Lies w d l) (hr : Lies w d r) (wl : WF 1 d l) (wr : WF 1 d r) (hs : 2 ≤ AT.sz d l + AT.sz d r ∧ AT.sz d l + AT.sz d r ≤ 5) (hnd : (AT.blocks d l ++ AT.blocks d r).Nodup) :
    Calls Try.prog 39 #[ptr (AT.b d l), ptr (AT.b d r)] w (JoinEnd d l r w) := by
  cases d with
  | zero =>
    obtain ⟨b1, v1, kv1⟩ := (l : Leaf)
    obtain ⟨b2, v2, kv2⟩ := (r : Leaf)
    obtain ⟨hb1, ho1⟩ := hl
    obtain ⟨hb2, ho2⟩ := hr
    replace ho1 : w.ownsRow 0 65 2 v1 kv1.length (leafCells kv1) := ho1
    replace ho2 : w.ownsRow 0 65 2 v2 kv2.length (leafCells kv2) := ho2
    have p1 : 1 ≤ kv1.length := wl.1
    have p2 : 1 ≤ kv2.length := wr.1
    obtain ⟨g1, c1, hv1, -, -, -⟩ := row_form ho1 p1
    obtain ⟨g2, c2, hv2, -, -, -⟩ := row_form ho2 p2
    subst hv1
    subst hv2
    replace hnd : ([b1, g1] ++ [b2, g2]).Nodup := hnd
    simp only [List.cons_append, List.nil_append, List.nodup_cons, List.mem_cons, List.not_mem_nil, or_false, not_or] at hnd
    exact join_leafN w b1 b2 kv1.length kv2.length c1 c2 g1 g2 kv1 kv2 rfl rfl hb1 hb2 ho1 ho2 hnd.1.1 hnd.1.2.1 hnd.2.1.1 hs ⟨p1, p2⟩
  | succ d =>
    obtain ⟨b1, v1, ks1⟩ := (l : Inner (AT d))
    obtain ⟨b2, v2, ks2⟩ := (r : Inner (AT d))
    obtain ⟨hb1, ho1, hk1⟩ := hl
    obtain ⟨hb2, ho2, hk2⟩ := hr
    replace ho1 : w.ownsRow 0 54 2 v1 ks1.length (kidCells d ks1) := ho1
    replace ho2 : w.ownsRow 0 54 2 v2 ks2.length (kidCells d ks2) := ho2
    have p1 : 1 ≤ ks1.length := wl.1
    have p2 : 1 ≤ ks2.length := wr.1
    obtain ⟨g1, c1, hv1, -, -, -⟩ := row_form ho1 p1
    obtain ⟨g2, c2, hv2, -, -, -⟩ := row_form ho2 p2
    subst hv1
    subst hv2
    replace hnd : ((b1 :: ([g1] ++ blocksL d ks1)) ++ (b2 :: ([g2] ++ blocksL d ks2))).Nodup := hnd
    refine join_innerN d w b1 b2 ks1.length ks2.length c1 c2 g1 g2 ks1 ks2 rfl rfl hb1 hb2 ho1 ho2 ?_ (keyed_append.2 ⟨wl.2.2.1, wr.2.2.1⟩) ?_ hs ⟨p1, p2⟩
    · intro x hx
      rcases List.mem_append.1 hx with hx | hx
      · exact ⟨hk1 x hx, wl.2.2.2 x hx⟩
      · exact ⟨hk2 x hx, wr.2.2.2 x hx⟩
    · rw [blocksL_append]
      simp only [List.cons_append, List.nil_append, List.nodup_cons, List.mem_cons, List.mem_append, not_or, List.nodup_append] at hnd ⊢
      obtain ⟨⟨a1, a2, a3, -, a5⟩, ⟨a6, a7, -, a9⟩, a10, ⟨⟨-, b2'⟩, -, b4⟩, b5⟩ := hnd
      exact ⟨⟨a1, a3, a2, a5⟩, ⟨a7, a6, a9⟩, ⟨fun h => b5 _ h _ (.inl rfl) rfl, b2'⟩, a10, b4, fun x hx y hy => b5 x hx y (.inr (.inr hy))⟩

def DropEnd (lo d : Nat) (t : AT d) (k : ByteArray) (w : World) (en : Ending) (w' : World) : Prop :=
  ∃ t' : AT d, en = .returned (.bool (get k (AT.toL d t)).isSome) ∧ AT.b d t' = AT.b d t ∧ Lies w' d t' ∧ WF (lo - 1) d t' ∧ (get k (AT.toL d t) = none → WF lo d t') ∧
    AT.toL d t' = del k (AT.toL d t) ∧ (AT.blocks d t').Nodup ∧ (∀ x ∈ AT.blocks d t', x ∈ AT.blocks d t ∨ w.heap.size ≤ x) ∧ Chg (· ∈ AT.blocks d t) w w'

theorem leafCells_del (kv : KV) (i : Nat) : delCells (leafCells kv) i = leafCells (kv.take i ++ kv.drop (i + 1)) := by
  unfold leafCells
  rw [del_cellsOf, List.map_append, List.map_take, List.map_drop]

theorem drop_leaf_not {w w1 : World} {lo b i : Nat} {tv : Value} {kv : KV} {k : ByteArray} (hl : Lies w 0 (⟨b, tv, kv⟩ : Leaf)) (hw : WF lo 0 (⟨b, tv, kv⟩ : Leaf)) (hnd : (AT.blocks 0 (⟨b, tv, kv⟩ : Leaf)).Nodup)
    (hs : Srt kv) (hp : Pos kv k i) (he : ∀ h : i < kv.length, kv[i].1 ≠ k) (hb1 : Below w.heap.size w w1) :
    DropEnd lo 0 (⟨b, tv, kv⟩ : Leaf) k w (.returned (.bool false)) w1 := by
  have hg := hp.get_not hs he
  refine ⟨(⟨b, tv, kv⟩ : Leaf), ?_, rfl, hl.chg (below_chg hb1) 0 _ (fun _ _ h => h), WF.mono (by omega) _ _ hw, fun _ => hw, ?_, hnd, fun x hx => .inl hx, Chg.of_below hb1⟩
  · show Ending.returned (.bool false) = .returned (.bool (get k kv).isSome)
    rw [hg]; rfl
  · show kv = del k kv
    exact (hp.del_not hs he).symm

theorem drop_leaf_yes {w _w1 w3 : World} {lo b g n c i : Nat} {kv : KV} {k : ByteArray} {v' : Value} (hkn : kv.length = n + 1) (hw : lo ≤ n + 1 ∧ n + 1 ≤ 4)
    (hs : Srt kv) (hp : Pos kv k i) (hi : i < kv.length) (he : kv[i].1 = k) (hb3 : w3.heap[b]? = some (.cells #[v', .slice none 0 0] 62 (0, 0)))
    (ho : w3.ownsRow 0 65 2 v' n (delCells (leafCells kv) i)) (hv : v'.ownBlock = some g) (hbg : b ≠ g) (hch : Chg (fun x => x = b ∨ x = g) w w3) :
    DropEnd lo 0 (⟨b, .slice (some ⟨g, 0, none⟩) (n + 1) c, kv⟩ : Leaf) k w (.returned (.bool true)) w3 := by
  have hg := hp.get_found hs hi he
  have hd := hp.del_found hs hi he
  rw [leafCells_del, ← hd] at ho
  have hl : (del k kv).length = n := by have := (length_del k kv hs).2 (by rw [hg]; simp); omega
  refine ⟨(⟨b, v', del k kv⟩ : Leaf), ?_, rfl, ⟨hb3, ?_⟩, ?_, ?_, rfl, ?_, ?_, ?_⟩
  · show Ending.returned (.bool true) = .returned (.bool (get k kv).isSome)
    rw [hg]; rfl
  · show World.ownsRow _ 0 65 2 _ (del k kv).length _
    rw [hl]; exact ho
  · show lo - 1 ≤ (del k kv).length ∧ (del k kv).length ≤ 4
    omega
  · intro h
    replace h : get k kv = none := h
    rw [hg] at h; cases h
  · show (b :: v'.ownBlock.toList).Nodup
    rw [hv]; simp [hbg]
  · intro x hx
    replace hx : x ∈ b :: v'.ownBlock.toList := hx
    rw [hv] at hx
    exact .inl hx
  · exact hch.mono (fun x _ h => by show x ∈ [b, g]; simpa using h)

set_option maxRecDepth 100000 in
set_option maxHeartbeats 1000000 in
theorem drop_leafN (w : World) (lo b n c : Nat) (p : Option Addr) (kv : KV) (k : ByteArray) (hkn : kv.length = n)
    (hb : w.heap[b]? = some (.cells #[.slice p n c, .slice none 0 0] 62 (0, 0))) (ho : w.ownsRow 0 65 2 (.slice p n c) n (leafCells kv)) (hw1 : lo ≤ n) (hw2 : n ≤ 4)
    (hs : Srt kv) (hnd : (AT.blocks 0 (⟨b, .slice p n c, kv⟩ : Leaf)).Nodup) :
    Calls Try.prog 24 #[ptr b, .string k] w (DropEnd lo 0 (⟨b, .slice p n c, kv⟩ : Leaf) k w) := by
  have hbl := lt_of_heap hb
  have h1c : w.cell? ⟨b, 1, none⟩ = some (.slice none 0 0) := cell_at hb 1
  have h0c : w.cell? ⟨b, 0, none⟩ = some (.slice p n c) := cell_at hb 0
  have hlies : Lies w 0 (⟨b, .slice p n c, kv⟩ : Leaf) := ⟨hb, by show World.ownsRow _ 0 65 2 _ kv.length _; rw [hkn]; exact ho⟩
  have hwf : WF lo 0 (⟨b, .slice p n c, kv⟩ : Leaf) := by show lo ≤ kv.length ∧ kv.length ≤ 4; omega
  have Hp := Lib.hid (place23 w b 0 n _ (leafCells kv) k h0c ho (fun i h => ⟨_, leafCells_key kv i (by omega)⟩) (by omega))
  have Hb := Lib.hid hb
  have Ho := Lib.hid ho
  have Hs := Lib.hid hs
  have Hnd := Lib.hid hnd
  have Hkn := Lib.hid hkn
  have Hl := Lib.hid hlies
  have Hw := Lib.hid hwf
  clear hb ho hs hnd hkn hlies hwf
  unfold ptr
  go_enter Try.func24, Try.ntmps24
  go_wp2_with (go_at_call 21; refine (leaf_yes _ _ _ _ h1c).mono ?_; rintro e w' ⟨rfl, rfl⟩)
  refine Hp.out.mono ?_
  rintro e w1 ⟨i, hse, rfl, hb1⟩
  have hpos := leaf_pos Hs.out (i := i) (k := k) (by rw [Hkn.out]; exact hse)
  have hbw1 : w1.heap[b]? = some (.cells #[.slice p n c, .slice none 0 0] 62 (0, 0)) := Below.at hb1 Hb.out
  have how1 : w1.ownsRow 0 65 2 (.slice p n c) n (leafCells kv) := ownsRow_below hb1 Ho.out
  have h0c1 : w1.cell? ⟨b, 0, none⟩ = some (.slice p n c) := cell_at hbw1 0
  have hil : i ≤ n := by have := hpos.1; rw [Hkn.out] at this; exact this
  have Hpos := Lib.hid hpos
  have Hb1 := Lib.hid hb1
  have Hbw1 := Lib.hid hbw1
  have How1 := Lib.hid how1
  clear hpos hb1 hbw1 how1 hse h1c h0c
  by_cases hlt : i < n
  · have hne : ((i : Int) == (n : Int)) = false := by simp; omega
    obtain ⟨g, cap, hf, hnc, hcm, hcell⟩ := row_form How1.out (by omega)
    cases hf
    have hk2 : w1.cell? ⟨g, i * 2, none⟩ = some (.string (kv[i]'(Hkn.out ▸ hlt)).1) := hcell _ _ (leafCells_key kv i (Hkn.out ▸ hlt))
    clear hcell
    cases heq : ((kv[i]'(Hkn.out ▸ hlt)).1.toList == k.toList)
    · have Hn : Hid (∀ h : i < kv.length, kv[i].1 ≠ k) := fun h e => by rw [e] at heq; simp at heq
      have Hf := Lib.hid (drop_leaf_not Hl.out Hw.out Hnd.out Hs.out Hpos.out Hn.out Hb1.out)
      go_wp2
      go_ret
      exact Hf.out
    · have Heq : Hid ((kv[i]'(Hkn.out ▸ hlt)).1 = k) := toList_inj (by simpa using heq)
      obtain ⟨m, rfl⟩ : ∃ m, n = m + 1 := ⟨n - 1, by omega⟩
      have hbg : b ≠ g := by
        have := Hnd.out
        simp [AT.blocks, Value.ownBlock] at this
        exact this
      have Hd := Lib.hid (delete37 w1 m i _ (leafCells kv) How1.out (by omega) (leafCells_one kv))
      have hw1' : IntKind.i64.wrap ((i : Int) + 1) = (i : Int) + 1 := IntWalk.i64_in _ (by omega)
      go_wp2_with fail
      refine Hd.out.mono ?_
      rintro e w2 ⟨v', rfl, ho2, hch2, hv2⟩
      have hbw2 := hch2.at Hbw1.out (fun e => by cases e; exact hbg rfl)
      have h0c2 := cell_at hbw2 0
      have hfr2 := free_at hbw2 0
      obtain ⟨cap', hv', -, -⟩ := ownsRow_form (k := g) ho2 hv2
      subst hv'
      have hc3 : Chg (· = b) w2 (w2.setCell ⟨b, 0, none⟩ (.slice (some ⟨g, 0, none⟩) m cap')) := Chg.setCell (S := (· = b)) (p := ⟨b, 0, none⟩) (fun _ => rfl) _
      have hfin := drop_leaf_yes (w := w) (_w1 := w1) (lo := lo) (g := g) (n := m) (c := c) (i := i) (k := k) Hkn.out ⟨hw1, hw2⟩ Hs.out Hpos.out (Hkn.out ▸ hlt) Heq.out (heap_setCell w2 b 0 _ 62 (.slice (some ⟨g, 0, none⟩) m cap') hbw2)
        (ownsRow_chg hc3 ho2 (fun x hx => by cases hx; exact fun e => hbg e.symm)) rfl hbg
        ((((below_chg Hb1.out).mono (fun _ _ h => h.elim)).trans hch2 (fun x _ h => by cases h; exact .inr rfl)).trans hc3 (fun _ _ h => .inl h))
      have Hf := Lib.hid hfin
      clear hfin hc3 ho2 hch2 hv2 hbw2
      go_wp2_with fail
      go_ret
      exact Hf.out
  · have hne : ((i : Int) == (n : Int)) = true := by simp; omega
    have Hn : Hid (∀ h : i < kv.length, kv[i].1 ≠ k) := fun h => absurd (Hkn.out ▸ h) hlt
    have Hf := Lib.hid (drop_leaf_not Hl.out Hw.out Hnd.out Hs.out Hpos.out Hn.out Hb1.out)
    go_wp2
    go_ret
    exact Hf.out

theorem drop_leaf (w : World) (lo : Nat) (t : Leaf) (k : ByteArray) (hl : Lies w 0 t) (hw : WF lo 0 t) (hs : Srt t.kv) (hnd : (AT.blocks 0 t).Nodup) :
    Calls Try.prog 24 #[ptr t.b, .string k] w (DropEnd lo 0 t k w) := by
  obtain ⟨b, tv, kv⟩ := t
  obtain ⟨hb, ho⟩ := hl
  replace ho : w.ownsRow 0 65 2 tv kv.length (leafCells kv) := ho
  obtain ⟨p, c, hv⟩ := slice_form ho
  subst hv
  exact drop_leafN w lo b kv.length c p kv k rfl hb ho hw.1 hw.2 hs hnd

end Go.Proofs.Ytempbaflcbmcpaa
