/- (*node).drop at an inner node: the walk. -/
import Derived.Test.YtempbaflcbmcpaaQ
import Derived.Test.YtempbaflcbmcpaaI41
namespace Go.Proofs.Ytempbaflcbmcpaa
open Go.RowKit

def DropCalls (d : Nat) : Prop := ∀ (w : World) (lo : Nat) (t : AT d) (k : ByteArray), Lies w d t → WF lo d t → Srt (AT.toL d t) → (AT.blocks d t).Nodup → (0 < d → lo = 2) →
  Calls Try.prog 24 #[ptr (AT.b d t), .string k] w (DropEnd lo d t k w)

theorem size_callsT (w : World) (d : Nat) (t : AT d) (hl : Lies w d t) (hs : AT.sz d t ≤ 5) :
    Calls Try.prog 38 #[ptr (AT.b d t)] w fun e w' => e = .returned (.int .i64 ((AT.sz d t : Nat) : Int)) ∧ ∃ m, w.drewN m = w' := by
  cases d with
  | zero =>
    obtain ⟨b, v, kv⟩ := (t : Leaf)
    obtain ⟨hb, ho⟩ := hl
    replace ho : w.ownsRow 0 65 2 v kv.length (leafCells kv) := ho
    replace hs : kv.length ≤ 5 := hs
    obtain ⟨p, c, hv⟩ := slice_form ho
    subst hv
    exact size_calls w b p none kv.length c 0 0 (cell_at hb 0) (cell_at hb 1) (by omega) (by omega)
  | succ d =>
    obtain ⟨b, v, ks⟩ := (t : Inner (AT d))
    obtain ⟨hb, ho, -⟩ := hl
    replace ho : w.ownsRow 0 54 2 v ks.length (kidCells d ks) := ho
    replace hs : ks.length ≤ 5 := hs
    obtain ⟨p, c, hv⟩ := slice_form ho
    subst hv
    have h := size_calls w b none p 0 0 ks.length c (cell_at hb 0) (cell_at hb 1) (by omega) (by omega)
    simp only [Nat.zero_add] at h
    exact h

theorem WF.sz {lo : Nat} : ∀ (d : Nat) (t : AT d), WF lo d t → lo ≤ AT.sz d t ∧ AT.sz d t ≤ 4
  | 0, _, h => h
  | _ + 1, _, h => ⟨h.1, h.2.1⟩
theorem WF.of_sz {lo lo' : Nat} : ∀ (d : Nat) (t : AT d), WF lo d t → lo' ≤ AT.sz d t → WF lo' d t
  | 0, _, h, hs => ⟨hs, h.2⟩
  | _ + 1, _, h, hs => ⟨hs, h.2⟩

set_option maxRecDepth 100000 in
set_option maxHeartbeats 8000000 in
theorem drop_innerN (d : Nat) (ih : DropCalls d) (w : World) (b g n c : Nat) (ks : List (ByteArray × AT d)) (k : ByteArray) (hkn : ks.length = n)
    (hb : w.heap[b]? = some (.cells #[.slice none 0 0, .slice (some ⟨g, 0, none⟩) n c] 62 (0, 0))) (ho : w.ownsRow 0 54 2 (.slice (some ⟨g, 0, none⟩) n c) n (kidCells d ks))
    (hkids : ∀ x ∈ ks, Lies w d x.2 ∧ WF 2 d x.2) (hK : Keyed (segsOf d ks)) (hw1 : 2 ≤ n) (hw2 : n ≤ 4)
    (hs : Srt (segs (segsOf d ks))) (hnd : (b :: g :: blocksL d ks).Nodup) :
    Calls Try.prog 24 #[ptr b, .string k] w (DropEnd 2 (d + 1) (⟨b, .slice (some ⟨g, 0, none⟩) n c, ks⟩ : Inner (AT d)) k w) := by
  have hn0 : 0 < n := by omega
  have hbl := lt_of_heap hb
  have hgl : g < w.heap.size := (ho.lt g rfl).2
  have h1c : w.cell? ⟨b, 1, none⟩ = some (.slice (some ⟨g, 0, none⟩) n c) := cell_at hb 1
  have Hu := Lib.hid (under22 w b 1 n g c (kidCells d ks) k h1c ho (fun i h => ⟨_, kidCells_key d ks i (by omega)⟩) (by omega))
  have Hb := Lib.hid hb
  have Ho := Lib.hid ho
  have Hs := Lib.hid hs
  have Hnd := Lib.hid hnd
  have Hkn := Lib.hid hkn
  have Hkids := Lib.hid hkids
  have HK := Lib.hid hK
  have Hih := Lib.hid ih
  clear hb ho hs hnd hkn hkids hK ih
  unfold ptr
  go_enter Try.func24, Try.ntmps24
  go_wp2_with (go_at_call 21; refine (leaf_no _ _ _ _ _ h1c hn0).mono ?_; rintro e w' ⟨rfl, rfl⟩)
  refine Hu.out.mono ?_
  rintro e w1 ⟨k0, u, hse, hu, rfl, hb1⟩
  have hup := under_pos HK.out Hs.out (by rw [Hkn.out]; exact hn0) k k0 u (by rw [Hkn.out]; exact hse) (by rw [Hkn.out]; exact hu)
  obtain ⟨A, C, kk, kid, hks, hAu, hlA, hgC⟩ : ∃ A C kk kid, ks = A ++ (kk, kid) :: C ∧ A.length = u ∧ (∀ x ∈ segs (segsOf d A), lt x.1 k = true) ∧ (∀ x ∈ segs (segsOf d C), lt k x.1 = true) := by
    obtain ⟨h1, h2, h3, h4⟩ := hup
    exact ⟨ks.take u, ks.drop (u + 1), ks[u].1, ks[u].2, h2, by rw [List.length_take]; omega, h3, h4⟩
  clear hup hse hu
  subst hks
  have hul : u < n := by have := Hkn.out; simp at this; omega
  have hbw1 : w1.heap[b]? = some (.cells #[.slice none 0 0, .slice (some ⟨g, 0, none⟩) n c] 62 (0, 0)) := Below.at hb1 Hb.out
  have how1 := ownsRow_below hb1 Ho.out
  have h1c1 : w1.cell? ⟨b, 1, none⟩ = some (.slice (some ⟨g, 0, none⟩) n c) := cell_at hbw1 1
  obtain ⟨g0, cap0, hf0, hnc, hcm, hcell⟩ := row_form how1 hn0
  cases hf0
  have hv2 : w1.cell? ⟨g, u * 2 + 1, none⟩ = some (.pointer (some ⟨AT.b d kid, 0, none⟩)) := by
    have := hcell _ _ (kidCells_val d (A ++ (kk, kid) :: C) u (by rw [Hkn.out]; exact hul))
    subst hAu
    simpa [ptr] using this
  have hkid := Hkids.out (kk, kid) (by simp)
  have hkl1 : Lies w1 d kid := hkid.1.chg (below_chg hb1) d kid (fun _ _ h => h)
  have hndk : (AT.blocks d kid).Nodup := by
    have := Hnd.out
    rw [blocksL_append, blocksL_cons, List.nodup_cons, List.nodup_cons, List.nodup_append, List.nodup_append] at this
    exact this.2.2.2.1.1
  have hsk : Srt (AT.toL d kid) := by
    have := Hs.out
    rw [segsOf_append, segsOf_cons, segs_append, segs_cons] at this
    unfold Srt at this ⊢
    rw [List.pairwise_append, List.pairwise_append] at this
    exact this.2.1.1
  have Hi := Lib.hid (Hih.out w1 2 kid k hkl1 hkid.2 hsk hndk (fun _ => rfl))
  have Hb1 := Lib.hid hb1
  have How1 := Lib.hid how1
  have Hbw1 := Lib.hid hbw1
  have HlA := Lib.hid hlA
  have HgC := Lib.hid hgC
  have HAu := Lib.hid hAu
  clear hb1 how1 hbw1 hcell hlA hgC hAu hkid hkl1 hndk hsk h1c
  unfold ptr at Hi
  go_wp2_with fail
  refine Hi.out.mono ?_
  rintro e w2 ⟨kid', he, hkb, hkl2, hkw2, hkn2, heq2, hnd2, hnew2, hch2⟩
  have hbkid : ∀ x ∈ AT.blocks d kid, x ≠ b ∧ x ≠ g := by
    intro x hx
    have := Hnd.out
    rw [blocksL_append, blocksL_cons, List.nodup_cons, List.nodup_cons] at this
    exact ⟨fun e => this.1 (by simp [← e, hx]), fun e => this.2.1 (by simp [← e, hx])⟩
  have hbw2 : w2.heap[b]? = some (.cells #[.slice none 0 0, .slice (some ⟨g, 0, none⟩) n c] 62 (0, 0)) := hch2.at Hbw1.out (fun h => (hbkid b h).1 rfl)
  have how2 : w2.ownsRow 0 54 2 (.slice (some ⟨g, 0, none⟩) n c) n (kidCells d (A ++ (kk, kid) :: C)) := ownsRow_chg hch2 How1.out (fun x hx h => by cases hx; exact (hbkid g h).2 rfl)
  have hS := stage_mk Hkn.out Hkids.out Hnd.out Hb1.out hbl hgl hbw2 how2 hkb hkl2 hnd2 hnew2 hch2
  have hget : get k (AT.toL d kid) = get k (segs (segsOf d (A ++ (kk, kid) :: C))) := by
    rw [segsOf_append, segsOf_cons, segs_append, segs_cons, get_mid k _ _ _ HlA.out HgC.out]
  have hdel : del k (segs (segsOf d (A ++ (kk, kid) :: C))) = segs (segsOf d A) ++ (AT.toL d kid' ++ segs (segsOf d C)) := by
    rw [segsOf_append, segsOf_cons, segs_append, segs_cons, del_mid k _ _ _ HlA.out HgC.out, heq2]
  have h1c2 : w2.cell? ⟨b, 1, none⟩ = some (.slice (some ⟨g, 0, none⟩) n c) := cell_at hbw2 1
  obtain ⟨g0, cap0, hf0, -, -, hcell2⟩ := row_form how2 hn0
  cases hf0
  have hv22 : w2.cell? ⟨g, u * 2 + 1, none⟩ = some (.pointer (some ⟨AT.b d kid, 0, none⟩)) := by
    have := hcell2 _ _ (kidCells_val d (A ++ (kk, kid) :: C) u (by rw [Hkn.out]; exact hul))
    have e := HAu.out
    subst e
    simpa [ptr] using this
  have HS := Lib.hid hS
  have Hget := Lib.hid hget
  have Hdel := Lib.hid hdel
  have Hkb := Lib.hid hkb
  have Hkw := Lib.hid hkw2
  have Hkn2 := Lib.hid hkn2
  have Heq2 := Lib.hid heq2
  have Hkl2 := Lib.hid hkl2
  clear hS hget hdel hkb hkw2 hkn2 heq2 hkl2 hnd2 hnew2 hch2 hbkid hbw2 how2 hcell2
  cases hg : get k (AT.toL d kid) with
  | none =>
    have Hg := Lib.hid hg
    rw [hg] at he
    replace he : e = .returned (.bool false) := he
    subst he
    clear hg
    have hK' := HK.out
    rw [keyed_append, keyed_cons] at hK'
    have hnone : get k (segs (segsOf d (A ++ (kk, kid) :: C))) = none := by rw [← Hget.out]; exact Hg.out
    have hkid' : AT.toL d kid' = AT.toL d kid := by
      have hsk : Srt (AT.toL d kid) := by
        have := Hs.out
        rw [segsOf_append, segsOf_cons, segs_append, segs_cons] at this
        unfold Srt at this ⊢
        rw [List.pairwise_append, List.pairwise_append] at this
        exact this.2.1.1
      rw [Heq2.out]; exact (length_del k _ hsk).1 Hg.out
    have hfin := stage_end (lo := 2) (k := k) HS.out (fun x hx => by
        rcases List.mem_append.1 hx with hx | hx
        · exact (Hkids.out x (by simp [hx])).2
        · rcases List.mem_cons.1 hx with rfl | hx
          · exact Hkn2.out Hg.out
          · exact (Hkids.out x (by simp [hx])).2)
      (keyed_append.2 ⟨hK'.1, keyed_cons.2 ⟨by rw [hkid']; exact hK'.2.1, hK'.2.2⟩⟩) ⟨by omega, hw2⟩ (fun _ => hw1) (by rw [Hdel.out, segsOf_append, segsOf_cons, segs_append, segs_cons])
    rw [hnone] at hfin
    have Hf := Lib.hid hfin
    clear hfin hK' hnone hkid'
    go_wp2_with fail
    go_ret
    exact Hf.out
  | some gv =>
    have Hg := Lib.hid hg
    rw [hg] at he
    replace he : e = .returned (.bool true) := he
    subst he
    clear hg
    have hszk := WF.sz d kid' Hkw.out
    have hsome : Hid (get k (segs (segsOf d (A ++ (kk, kid) :: C))) ≠ none) := by show _ ≠ none; rw [← Hget.out, Hg.out]; simp
    have Hsz := Lib.hid (size_callsT w2 d kid' Hkl2.out (by omega))
    unfold ptr at Hsz
    rw [Hkb.out] at Hsz
    have hK' := HK.out
    rw [keyed_append, keyed_cons] at hK'
    have HKA := Lib.hid hK'.1
    have HKC := Lib.hid hK'.2.2
    have HwA : Hid (∀ x ∈ A, WF 2 d x.2) := fun x hx => (Hkids.out x (by simp [hx])).2
    have HwC : Hid (∀ x ∈ C, WF 2 d x.2) := fun x hx => (Hkids.out x (by simp [hx])).2
    clear hK'
    go_wp2_with fail
    refine Hsz.out.mono ?_
    rintro e w3 ⟨rfl, m, rfl⟩
    by_cases hs2 : AT.sz d kid' < 2
    · have hs2' : ((AT.sz d kid' : Nat) : Int) < 2 := by omega
      obtain ⟨j, rfl⟩ : ∃ j, n = j + 2 := ⟨n - 2, by omega⟩
      by_cases hju : j < u
      · have hju2 : u = j + 1 := by omega
        have Hju := Lib.hid hju2; clear hju2
        have hP : ∃ A' C' ka kb l r, Pair d (A ++ (kk, kid') :: C) A' C' j ka kb l r := (by
          have hC : C = [] := List.eq_nil_of_length_eq_zero (by have := Hkn.out; simp at this; have := HAu.out; have := Hju.out; omega)
          subst hC
          obtain ⟨A', ka, l, P⟩ := pair_left (kk := kk) (A := A) (kid' := kid') (i := j) (by have := HAu.out; have := Hju.out; omega) HwA.out Hkw.out hs2 HKA.out
          exact ⟨A', [], ka, kk, l, kid', P⟩)
        obtain ⟨A', C', ka, kb, l, r, P⟩ : ∃ A' C' ka kb l r, Pair d (A ++ (kk, kid') :: C) A' C' j ka kb l r := hP
        have S2 := HS.out
        rw [P.split] at S2
        have S3 := fun q => S2.far (Chg.drewN (fun _ => False) w2 q) (fun _ _ e => e) (fun _ _ e => e.elim)
        have hrow := stage_row S2
        have hr1 := hrow.2.2.2 A' ((kb, r) :: C') ka l rfl
        have hr2 := hrow.2.2.2 (A' ++ [(ka, l)]) C' kb r (by simp)
        rw [P.len] at hr1
        rw [List.length_append, List.length_singleton, P.len] at hr2
        have hpl : w2.cell? ⟨g, j * 2 + 1, none⟩ = some (.pointer (some ⟨AT.b d l, 0, none⟩)) := hr1.2
        have hpr : w2.cell? ⟨g, (j + 1) * 2 + 1, none⟩ = some (.pointer (some ⟨AT.b d r, 0, none⟩)) := hr2.2
        have hndlr : (AT.blocks d l ++ AT.blocks d r).Nodup := by
          have := S2.nodup
          rw [restB, List.append_nil, blocksL_append, blocksL_cons, blocksL_cons, List.nodup_cons, List.nodup_cons, List.nodup_append] at this
          have h2 := this.2.2.2.1
          rw [← List.append_assoc] at h2
          exact (List.nodup_append.1 h2).1
        have HJ := Lib.hid (fun q => join_calls d (w2.drewN q) l r ((S3 q).lies (ka, l) (by simp)) ((S3 q).lies (kb, r) (by simp)) P.wl P.wr P.sz hndlr)
        unfold ptr at HJ
        have HS3 := Lib.hid S3
        have HP := Lib.hid P
        have hseg : segs (segsOf d A') ++ (AT.toL d l ++ (AT.toL d r ++ segs (segsOf d C'))) = del k (segs (segsOf d (A ++ (kk, kid) :: C))) := by
          have e1 : segs (segsOf d (A ++ (kk, kid') :: C)) = segs (segsOf d (A' ++ (ka, l) :: (kb, r) :: C')) := by rw [P.split]
          rw [segsOf_append, segsOf_cons, segs_append, segs_cons, segsOf_append, segsOf_cons, segsOf_cons, segs_append, segs_cons, segs_cons] at e1
          rw [Hdel.out, e1]
        have Hseg := Lib.hid hseg
        have hwi1 : IntKind.i64.wrap ((j : Int) + 1) = (j : Int) + 1 := IntWalk.i64_in _ (by omega)
        have hwi2 : IntKind.i64.wrap ((j : Int) + 2) = (j : Int) + 2 := IntWalk.i64_in _ (by omega)
        have hii0 : (0 : Int) ≤ (j : Int) + 1 := by omega
        have hii1 : (j : Int) + 1 < (j : Int) + 2 := by omega
        have hii2 : ((j : Int) + 1).toNat = j + 1 := by omega
        have hii3 : (j : Int) < (j : Int) + 1 := by omega
        have hii4 : (j : Int) < (j : Int) + 1 + 1 := by omega
        clear Hih Hu Ho Hb Hs Hnd Hkn Hkids HK Hi Hb1 How1 Hbw1 HlA HgC HAu Hget Hdel Hkb Hkw Hkn2 Heq2 Hkl2 Hg Hsz HKA HKC HwA HwC HS hv2 hv22 h1c1 hnc hcm hszk hs2 hgl hw1 hn0
        clear P S2 S3 hrow hr1 hr2 hndlr hseg
        go_wp2_with fail
        go_quiet (fail)
        go_wp2_with fail
        refine (HJ.out _).mono ?_
        rintro e w4 ⟨l', r', he, hkb4, hl4, hw4, hr4, heq4, hnd4, hnew4, hch4⟩
        obtain ⟨hb4, ho4, hcont⟩ := stage_join (HS3.out _) hkb4 hl4 (fun x hx => (hr4 x hx).1) hnd4 hnew4 hch4
        have h1c4 := cell_at hb4 1
        have hbg : b ≠ g := by
          have := (HS3.out 0).nodup
          rw [List.nodup_cons] at this
          exact fun e => this.1 (by simp [e])
        have HD0 := delete40 w4 (j + 1) (j + 1) _ _ ho4 (by omega) (kidCells_one d _)
        rw [show (((j + 1 : Nat)) : Int) = (j : Int) + 1 by omega, show (j : Int) + 1 + 1 = (j : Int) + 2 by omega] at HD0
        have HD := Lib.hid HD0
        rw [HP.out.len] at hcont
        have Hcont := Lib.hid hcont
        have Heq4 : Hid (segs (segsOf d A') ++ ((AT.toL d l' ++ restL d r') ++ segs (segsOf d C')) = del k (segs (segsOf d (A ++ (kk, kid) :: C)))) := by
          show _ = _
          rw [← Hseg.out, heq4, List.append_assoc]
        have Hw4 := Lib.hid hw4
        have Hr4 := Lib.hid hr4
        have Hl4 := Lib.hid hl4
        have Hb4 := Lib.hid hb4
        clear HD0 hcont heq4 hw4 hr4 hb4 ho4 hl4 hkb4 hnd4 hnew4 hch4 hpl hpr
        cases r' with
        | none =>
          replace he : e = .returned (.pointer none) := he
          subst he
          go_wp2_with fail
          refine HD.out.mono ?_
          rintro e w5 ⟨v5, rfl, ho5, hch5, hv5⟩
          obtain ⟨c5, hf5, -, -⟩ := ownsRow_form (k := g) ho5 hv5
          subst hf5
          have hb5 := hch5.at Hb4.out (fun e => by cases e; exact hbg rfl)
          have h1c5 := cell_at hb5 1
          have hf5 := free_at hb5 1
          have hc6 : Chg (· = b) w5 (w5.setCell ⟨b, 1, none⟩ (.slice (some ⟨g, 0, none⟩) (j + 1) c5)) := Chg.setCell (S := (· = b)) (p := ⟨b, 1, none⟩) (fun _ => rfl) _
          have S6 := Hcont.out _ (j + 1) c5 rfl ((hch5.mono (fun x _ h => by cases h; exact .inr rfl)).trans hc6 (fun _ _ h => .inl h)) (heap_setCell w5 b 1 _ 62 _ hb5) (ownsRow_chg hc6 ho5 (fun x hx => by cases hx; exact fun e => hbg e.symm))
          have hfin := drop_fin (k := k) S6 ⟨HP.out.wA, HP.out.wC, Hw4.out⟩ ⟨HP.out.kA, HP.out.kC⟩ ⟨by omega, by omega⟩ hsome.out (by have := Heq4.out; rw [restL, List.append_nil] at this; exact this)
          have hrow := stage_row S6
          have hrow2 := hrow.2.2.2 A' C' ka l' rfl
          rw [HP.out.len] at hfin hrow2
          have HFIN := Lib.hid hfin
          have hll := S6.lies (ka, l') (by simp)
          obtain ⟨W6, hW6⟩ : ∃ W6, W6 = w5.setCell ⟨b, 1, none⟩ (.slice (some ⟨g, 0, none⟩) (j + 1) c5) := ⟨_, rfl⟩
          rw [← hW6] at hrow hrow2 HFIN hll
          have HFI := Lib.hid (first_calls W6.drew d l' (hll.chg (Chg.drew (fun _ => False) _) d l' (fun _ _ h => h)) (WF.mono (by omega) _ _ Hw4.out))
          unfold ptr at HFI
          have q0 := hrow.1
          have q1 : W6.frozen? ⟨g, j * 2, none⟩ = false := hrow.2.2.1 _
          have q2 := hrow2.1
          have q3 := hrow2.2
          have HW6 := Lib.hid hW6
          clear hfin hrow hrow2 S6 hW6 hll ho5 hch5 hv5 hb5 hc6
          go_wp2_with fail
          rw [← HW6.out]
          refine wp_region_still_tail 18 (by kernel_rfl) (by kernel_rfl) ?_
          simp only [World.drew_eq, List.take_succ_cons, List.take_zero, List.drop_succ_cons, List.drop_zero]
          repeat still_step
          still_call (HFI.out.mono fun e w9 h => ⟨h.1, h.2.symm⟩)
          repeat still_step
          refine wpStill_nil ?_
          go_wp2_with fail
          go_ret
          exact HFIN.out
        | some r' =>
          replace he : e = .returned (.pointer (some ⟨AT.b d r', 0, none⟩)) := he
          subst he
          go_wp2_with fail
          refine HD.out.mono ?_
          rintro e w5 ⟨v5, rfl, ho5, hch5, hv5⟩
          obtain ⟨c5, hf5, -, -⟩ := ownsRow_form (k := g) ho5 hv5
          subst hf5
          have hb5 := hch5.at Hb4.out (fun e => by cases e; exact hbg rfl)
          have h1c5 := cell_at hb5 1
          have hf5 := free_at hb5 1
          have hc6 : Chg (· = b) w5 (w5.setCell ⟨b, 1, none⟩ (.slice (some ⟨g, 0, none⟩) (j + 1) c5)) := Chg.setCell (S := (· = b)) (p := ⟨b, 1, none⟩) (fun _ => rfl) _
          have S6 := Hcont.out _ (j + 1) c5 rfl ((hch5.mono (fun x _ h => by cases h; exact .inr rfl)).trans hc6 (fun _ _ h => .inl h)) (heap_setCell w5 b 1 _ 62 _ hb5) (ownsRow_chg hc6 ho5 (fun x hx => by cases hx; exact fun e => hbg e.symm))
          obtain ⟨W6, hW6⟩ : ∃ W6, W6 = w5.setCell ⟨b, 1, none⟩ (.slice (some ⟨g, 0, none⟩) (j + 1) c5) := ⟨_, rfl⟩
          rw [← hW6] at S6
          have hrow := stage_row S6
          have q0 := hrow.1
          have hgs := (S6.ho.lt g rfl).2
          have hbn6 : b < W6.heap.size := lt_of_heap S6.hb
          have Hfr := Lib.hid (first_calls W6.drew d r' ((S6.exl r' rfl).chg (Chg.drew (fun _ => False) _) d r' (fun _ _ h => h)) (WF.mono (by omega) _ _ (Hr4.out r' rfl).2))
          have HI := insert41 (W6.drew.alloc (.cells #[.string (headKey d r'), ptr (AT.b d r')] 54 (0, 0))) (j + 1) (j + 1) W6.heap.size _ _ (.string (headKey d r')) (ptr (AT.b d r'))
            ((ownsRow_chg (Chg.drew (fun _ => False) W6) S6.ho (fun _ _ h => h)).alloc _) (heap_alloc_new W6.drew _) (fun e => absurd hgs (by have e2 : g = W6.heap.size := (by simpa [Value.ownBlock] using e); omega)) (by omega) (by omega) rfl rfl (kidCells_one d _)
          rw [show (((j + 1 : Nat)) : Int) = (j : Int) + 1 by omega] at HI
          unfold ptr at HI Hfr
          have Hin := Lib.hid HI
          have HS6 := Lib.hid S6
          have HW6 := Lib.hid hW6
          clear hW6 S6 HI ho5 hch5 hv5 hb5 hc6 hrow hgs
          go_wp2_with fail
          rw [← HW6.out]
          go_region_law (first | (go_simp; go_at_call 29; refine Hfr.out.mono ?_; rintro e w9 ⟨rfl, rfl⟩) | (go_simp; go_at_call 41; refine Hin.out.mono ?_; rintro e w7 ⟨v', rfl, ho7, hch7, hnew7⟩; obtain ⟨g7, c7, hv7, -, -, -⟩ := row_form ho7 (by omega); subst hv7; have hsi := stage_ins HS6.out ((Chg.drew _ _).trans (Chg.alloc (S := fun _ => False) _ _) (fun _ _ h => h)) HP.out.len ho7 hch7 ((hnew7 g7 rfl).imp (fun h => by cases h; rfl) id); have h1c7 := cell_at hsi.1 1; have hfr7 := free_at hsi.1 1; have Hsi := Lib.hid hsi.2; clear hsi ho7 hch7 hnew7))
          all_goals
            obtain ⟨W8, hW8⟩ : ∃ W8, W8 = w7.setCell ⟨b, 1, none⟩ (.slice (some ⟨g7, 0, none⟩) (j + 1 + 1) c7) := ⟨_, rfl⟩
            have hS8 := Hsi.out
            rw [← hW8] at hS8
            have hfin := drop_fin (k := k) hS8 ⟨HP.out.wA, (fun x hx => by
                rcases List.mem_cons.1 hx with rfl | hx
                · exact (Hr4.out r' rfl).2
                · exact HP.out.wC x hx), Hw4.out⟩ ⟨HP.out.kA, keyed_cons.2 ⟨headKey_cons d r' (WF.mono (by omega) _ _ (Hr4.out r' rfl).2), HP.out.kC⟩⟩ ⟨by omega, by omega⟩ hsome.out (by have := Heq4.out; rw [restL, List.append_assoc] at this; rw [segsOf_cons, segs_cons]; exact this)
            have hrow := stage_row hS8
            have hrow2 := hrow.2.2.2 A' ((headKey d r', r') :: C') ka l' rfl
            rw [HP.out.len] at hfin hrow2
            have HFIN := Lib.hid hfin
            have hll := hS8.lies (ka, l') (by simp)
            have HFI := Lib.hid (first_calls W8.drew d l' (hll.chg (Chg.drew (fun _ => False) _) d l' (fun _ _ h => h)) (WF.mono (by omega) _ _ Hw4.out))
            unfold ptr at HFI
            have q10 := hrow.1
            have q11 : W8.frozen? ⟨g7, j * 2, none⟩ = false := hrow.2.2.1 _
            have q12 := hrow2.1
            have q13 := hrow2.2
            have HW8 := Lib.hid hW8
            clear hfin hrow hrow2 hS8 hW8 hll
            go_wp2_with fail
            rw [← HW8.out]
            refine wp_region_still_tail 18 (by kernel_rfl) (by kernel_rfl) ?_
            simp only [World.drew_eq, List.take_succ_cons, List.take_zero, List.drop_succ_cons, List.drop_zero]
            repeat still_step
            still_call (HFI.out.mono fun e w9 h => ⟨h.1, h.2.symm⟩)
            repeat still_step
            refine wpStill_nil ?_
            go_wp2_with fail
            go_ret
            exact HFIN.out
      · skip
        have hP : ∃ A' C' ka kb l r, Pair d (A ++ (kk, kid') :: C) A' C' u ka kb l r := (by
          obtain ⟨C', kb, r, P⟩ := pair_right (kk := kk) (A := A) (C := C) (kid' := kid') (by intro e; have := Hkn.out; rw [e] at this; simp at this; have := HAu.out; omega) HwA.out HwC.out Hkw.out hs2 HKA.out HKC.out
          rw [HAu.out] at P
          exact ⟨A, C', kk, kb, kid', r, P⟩)
        obtain ⟨A', C', ka, kb, l, r, P⟩ : ∃ A' C' ka kb l r, Pair d (A ++ (kk, kid') :: C) A' C' u ka kb l r := hP
        have S2 := HS.out
        rw [P.split] at S2
        have S3 := fun q => S2.far (Chg.drewN (fun _ => False) w2 q) (fun _ _ e => e) (fun _ _ e => e.elim)
        have hrow := stage_row S2
        have hr1 := hrow.2.2.2 A' ((kb, r) :: C') ka l rfl
        have hr2 := hrow.2.2.2 (A' ++ [(ka, l)]) C' kb r (by simp)
        rw [P.len] at hr1
        rw [List.length_append, List.length_singleton, P.len] at hr2
        have hpl : w2.cell? ⟨g, u * 2 + 1, none⟩ = some (.pointer (some ⟨AT.b d l, 0, none⟩)) := hr1.2
        have hpr : w2.cell? ⟨g, (u + 1) * 2 + 1, none⟩ = some (.pointer (some ⟨AT.b d r, 0, none⟩)) := hr2.2
        have hndlr : (AT.blocks d l ++ AT.blocks d r).Nodup := by
          have := S2.nodup
          rw [restB, List.append_nil, blocksL_append, blocksL_cons, blocksL_cons, List.nodup_cons, List.nodup_cons, List.nodup_append] at this
          have h2 := this.2.2.2.1
          rw [← List.append_assoc] at h2
          exact (List.nodup_append.1 h2).1
        have HJ := Lib.hid (fun q => join_calls d (w2.drewN q) l r ((S3 q).lies (ka, l) (by simp)) ((S3 q).lies (kb, r) (by simp)) P.wl P.wr P.sz hndlr)
        unfold ptr at HJ
        have HS3 := Lib.hid S3
        have HP := Lib.hid P
        have hseg : segs (segsOf d A') ++ (AT.toL d l ++ (AT.toL d r ++ segs (segsOf d C'))) = del k (segs (segsOf d (A ++ (kk, kid) :: C))) := by
          have e1 : segs (segsOf d (A ++ (kk, kid') :: C)) = segs (segsOf d (A' ++ (ka, l) :: (kb, r) :: C')) := by rw [P.split]
          rw [segsOf_append, segsOf_cons, segs_append, segs_cons, segsOf_append, segsOf_cons, segsOf_cons, segs_append, segs_cons, segs_cons] at e1
          rw [Hdel.out, e1]
        have Hseg := Lib.hid hseg
        have hwi1 : IntKind.i64.wrap ((u : Int) + 1) = (u : Int) + 1 := IntWalk.i64_in _ (by omega)
        have hwi2 : IntKind.i64.wrap ((u : Int) + 2) = (u : Int) + 2 := IntWalk.i64_in _ (by omega)
        have hii0 : (0 : Int) ≤ (u : Int) + 1 := by omega
        have hii1 : (u : Int) + 1 < (j : Int) + 2 := by omega
        have hii2 : ((u : Int) + 1).toNat = u + 1 := by omega
        have hii3 : (u : Int) < (j : Int) + 1 := by omega
        have hii4 : (u : Int) < (j : Int) + 1 + 1 := by omega
        clear Hih Hu Ho Hb Hs Hnd Hkn Hkids HK Hi Hb1 How1 Hbw1 HlA HgC HAu Hget Hdel Hkb Hkw Hkn2 Heq2 Hkl2 Hg Hsz HKA HKC HwA HwC HS hv2 hv22 h1c1 hnc hcm hszk hs2 hgl hw1 hn0
        clear P S2 S3 hrow hr1 hr2 hndlr hseg
        go_wp2_with fail
        go_quiet (fail)
        go_wp2_with fail
        refine (HJ.out _).mono ?_
        rintro e w4 ⟨l', r', he, hkb4, hl4, hw4, hr4, heq4, hnd4, hnew4, hch4⟩
        obtain ⟨hb4, ho4, hcont⟩ := stage_join (HS3.out _) hkb4 hl4 (fun x hx => (hr4 x hx).1) hnd4 hnew4 hch4
        have h1c4 := cell_at hb4 1
        have hbg : b ≠ g := by
          have := (HS3.out 0).nodup
          rw [List.nodup_cons] at this
          exact fun e => this.1 (by simp [e])
        have HD0 := delete40 w4 (j + 1) (u + 1) _ _ ho4 (by omega) (kidCells_one d _)
        rw [show (((u + 1 : Nat)) : Int) = (u : Int) + 1 by omega, show (u : Int) + 1 + 1 = (u : Int) + 2 by omega] at HD0
        have HD := Lib.hid HD0
        rw [HP.out.len] at hcont
        have Hcont := Lib.hid hcont
        have Heq4 : Hid (segs (segsOf d A') ++ ((AT.toL d l' ++ restL d r') ++ segs (segsOf d C')) = del k (segs (segsOf d (A ++ (kk, kid) :: C)))) := by
          show _ = _
          rw [← Hseg.out, heq4, List.append_assoc]
        have Hw4 := Lib.hid hw4
        have Hr4 := Lib.hid hr4
        have Hl4 := Lib.hid hl4
        have Hb4 := Lib.hid hb4
        clear HD0 hcont heq4 hw4 hr4 hb4 ho4 hl4 hkb4 hnd4 hnew4 hch4 hpl hpr
        cases r' with
        | none =>
          replace he : e = .returned (.pointer none) := he
          subst he
          go_wp2_with fail
          refine HD.out.mono ?_
          rintro e w5 ⟨v5, rfl, ho5, hch5, hv5⟩
          obtain ⟨c5, hf5, -, -⟩ := ownsRow_form (k := g) ho5 hv5
          subst hf5
          have hb5 := hch5.at Hb4.out (fun e => by cases e; exact hbg rfl)
          have h1c5 := cell_at hb5 1
          have hf5 := free_at hb5 1
          have hc6 : Chg (· = b) w5 (w5.setCell ⟨b, 1, none⟩ (.slice (some ⟨g, 0, none⟩) (j + 1) c5)) := Chg.setCell (S := (· = b)) (p := ⟨b, 1, none⟩) (fun _ => rfl) _
          have S6 := Hcont.out _ (j + 1) c5 rfl ((hch5.mono (fun x _ h => by cases h; exact .inr rfl)).trans hc6 (fun _ _ h => .inl h)) (heap_setCell w5 b 1 _ 62 _ hb5) (ownsRow_chg hc6 ho5 (fun x hx => by cases hx; exact fun e => hbg e.symm))
          have hfin := drop_fin (k := k) S6 ⟨HP.out.wA, HP.out.wC, Hw4.out⟩ ⟨HP.out.kA, HP.out.kC⟩ ⟨by omega, by omega⟩ hsome.out (by have := Heq4.out; rw [restL, List.append_nil] at this; exact this)
          have hrow := stage_row S6
          have hrow2 := hrow.2.2.2 A' C' ka l' rfl
          rw [HP.out.len] at hfin hrow2
          have HFIN := Lib.hid hfin
          have hll := S6.lies (ka, l') (by simp)
          obtain ⟨W6, hW6⟩ : ∃ W6, W6 = w5.setCell ⟨b, 1, none⟩ (.slice (some ⟨g, 0, none⟩) (j + 1) c5) := ⟨_, rfl⟩
          rw [← hW6] at hrow hrow2 HFIN hll
          have HFI := Lib.hid (first_calls W6.drew d l' (hll.chg (Chg.drew (fun _ => False) _) d l' (fun _ _ h => h)) (WF.mono (by omega) _ _ Hw4.out))
          unfold ptr at HFI
          have q0 := hrow.1
          have q1 : W6.frozen? ⟨g, u * 2, none⟩ = false := hrow.2.2.1 _
          have q2 := hrow2.1
          have q3 := hrow2.2
          have HW6 := Lib.hid hW6
          clear hfin hrow hrow2 S6 hW6 hll ho5 hch5 hv5 hb5 hc6
          go_wp2_with fail
          rw [← HW6.out]
          refine wp_region_still_tail 18 (by kernel_rfl) (by kernel_rfl) ?_
          simp only [World.drew_eq, List.take_succ_cons, List.take_zero, List.drop_succ_cons, List.drop_zero]
          repeat still_step
          still_call (HFI.out.mono fun e w9 h => ⟨h.1, h.2.symm⟩)
          repeat still_step
          refine wpStill_nil ?_
          go_wp2_with fail
          go_ret
          exact HFIN.out
        | some r' =>
          replace he : e = .returned (.pointer (some ⟨AT.b d r', 0, none⟩)) := he
          subst he
          go_wp2_with fail
          refine HD.out.mono ?_
          rintro e w5 ⟨v5, rfl, ho5, hch5, hv5⟩
          obtain ⟨c5, hf5, -, -⟩ := ownsRow_form (k := g) ho5 hv5
          subst hf5
          have hb5 := hch5.at Hb4.out (fun e => by cases e; exact hbg rfl)
          have h1c5 := cell_at hb5 1
          have hf5 := free_at hb5 1
          have hc6 : Chg (· = b) w5 (w5.setCell ⟨b, 1, none⟩ (.slice (some ⟨g, 0, none⟩) (j + 1) c5)) := Chg.setCell (S := (· = b)) (p := ⟨b, 1, none⟩) (fun _ => rfl) _
          have S6 := Hcont.out _ (j + 1) c5 rfl ((hch5.mono (fun x _ h => by cases h; exact .inr rfl)).trans hc6 (fun _ _ h => .inl h)) (heap_setCell w5 b 1 _ 62 _ hb5) (ownsRow_chg hc6 ho5 (fun x hx => by cases hx; exact fun e => hbg e.symm))
          obtain ⟨W6, hW6⟩ : ∃ W6, W6 = w5.setCell ⟨b, 1, none⟩ (.slice (some ⟨g, 0, none⟩) (j + 1) c5) := ⟨_, rfl⟩
          rw [← hW6] at S6
          have hrow := stage_row S6
          have q0 := hrow.1
          have hgs := (S6.ho.lt g rfl).2
          have hbn6 : b < W6.heap.size := lt_of_heap S6.hb
          have Hfr := Lib.hid (first_calls W6.drew d r' ((S6.exl r' rfl).chg (Chg.drew (fun _ => False) _) d r' (fun _ _ h => h)) (WF.mono (by omega) _ _ (Hr4.out r' rfl).2))
          have HI := insert41 (W6.drew.alloc (.cells #[.string (headKey d r'), ptr (AT.b d r')] 54 (0, 0))) (j + 1) (u + 1) W6.heap.size _ _ (.string (headKey d r')) (ptr (AT.b d r'))
            ((ownsRow_chg (Chg.drew (fun _ => False) W6) S6.ho (fun _ _ h => h)).alloc _) (heap_alloc_new W6.drew _) (fun e => absurd hgs (by have e2 : g = W6.heap.size := (by simpa [Value.ownBlock] using e); omega)) (by omega) (by omega) rfl rfl (kidCells_one d _)
          rw [show (((u + 1 : Nat)) : Int) = (u : Int) + 1 by omega] at HI
          unfold ptr at HI Hfr
          have Hin := Lib.hid HI
          have HS6 := Lib.hid S6
          have HW6 := Lib.hid hW6
          clear hW6 S6 HI ho5 hch5 hv5 hb5 hc6 hrow hgs
          go_wp2_with fail
          rw [← HW6.out]
          go_region_law (first | (go_simp; go_at_call 29; refine Hfr.out.mono ?_; rintro e w9 ⟨rfl, rfl⟩) | (go_simp; go_at_call 41; refine Hin.out.mono ?_; rintro e w7 ⟨v', rfl, ho7, hch7, hnew7⟩; obtain ⟨g7, c7, hv7, -, -, -⟩ := row_form ho7 (by omega); subst hv7; have hsi := stage_ins HS6.out ((Chg.drew _ _).trans (Chg.alloc (S := fun _ => False) _ _) (fun _ _ h => h)) HP.out.len ho7 hch7 ((hnew7 g7 rfl).imp (fun h => by cases h; rfl) id); have h1c7 := cell_at hsi.1 1; have hfr7 := free_at hsi.1 1; have Hsi := Lib.hid hsi.2; clear hsi ho7 hch7 hnew7))
          all_goals
            obtain ⟨W8, hW8⟩ : ∃ W8, W8 = w7.setCell ⟨b, 1, none⟩ (.slice (some ⟨g7, 0, none⟩) (j + 1 + 1) c7) := ⟨_, rfl⟩
            have hS8 := Hsi.out
            rw [← hW8] at hS8
            have hfin := drop_fin (k := k) hS8 ⟨HP.out.wA, (fun x hx => by
                rcases List.mem_cons.1 hx with rfl | hx
                · exact (Hr4.out r' rfl).2
                · exact HP.out.wC x hx), Hw4.out⟩ ⟨HP.out.kA, keyed_cons.2 ⟨headKey_cons d r' (WF.mono (by omega) _ _ (Hr4.out r' rfl).2), HP.out.kC⟩⟩ ⟨by omega, by omega⟩ hsome.out (by have := Heq4.out; rw [restL, List.append_assoc] at this; rw [segsOf_cons, segs_cons]; exact this)
            have hrow := stage_row hS8
            have hrow2 := hrow.2.2.2 A' ((headKey d r', r') :: C') ka l' rfl
            rw [HP.out.len] at hfin hrow2
            have HFIN := Lib.hid hfin
            have hll := hS8.lies (ka, l') (by simp)
            have HFI := Lib.hid (first_calls W8.drew d l' (hll.chg (Chg.drew (fun _ => False) _) d l' (fun _ _ h => h)) (WF.mono (by omega) _ _ Hw4.out))
            unfold ptr at HFI
            have q10 := hrow.1
            have q11 : W8.frozen? ⟨g7, u * 2, none⟩ = false := hrow.2.2.1 _
            have q12 := hrow2.1
            have q13 := hrow2.2
            have HW8 := Lib.hid hW8
            clear hfin hrow hrow2 hS8 hW8 hll
            go_wp2_with fail
            rw [← HW8.out]
            refine wp_region_still_tail 18 (by kernel_rfl) (by kernel_rfl) ?_
            simp only [World.drew_eq, List.take_succ_cons, List.take_zero, List.drop_succ_cons, List.drop_zero]
            repeat still_step
            still_call (HFI.out.mono fun e w9 h => ⟨h.1, h.2.symm⟩)
            repeat still_step
            refine wpStill_nil ?_
            go_wp2_with fail
            go_ret
            exact HFIN.out
    · have hs2' : ¬ ((AT.sz d kid' : Nat) : Int) < 2 := by omega
      have S3 := HS.out.far (Chg.drewN (fun _ => False) w2 m) (fun _ _ e => e) (fun _ _ e => e.elim)
      have hfin := drop_fin (k := k) S3 ⟨HwA.out, HwC.out, WF.of_sz d kid' Hkw.out (by omega)⟩ ⟨HKA.out, HKC.out⟩ ⟨by omega, hw2⟩ hsome.out Hdel.out.symm
      have hrow := stage_row S3
      have hrow2 := hrow.2.2.2 A C kk kid' rfl
      rw [HAu.out] at hfin hrow2
      have HFIN := Lib.hid hfin
      have HFI := Lib.hid (first_calls (w2.drewN m).drew d kid' (Hkl2.out.chg ((Chg.drewN (fun _ => False) w2 m).trans (Chg.drew _ _) (fun _ _ h => h)) d kid' (fun _ _ h => h)) (WF.mono (by omega) _ _ (WF.of_sz (lo' := 2) d kid' Hkw.out (by omega))))
      unfold ptr at HFI
      have q1 : w2.frozen? ⟨g, u * 2, none⟩ = false := hrow.2.2.1 _
      have q2 : w2.cell? ⟨g, u * 2, none⟩ = some (.string kk) := hrow2.1
      rw [Hkb.out] at HFI
      clear hfin hrow hrow2 S3
      go_wp2_with fail
      refine wp_region_still_tail 18 (by kernel_rfl) (by kernel_rfl) ?_
      simp only [World.drew_eq, List.take_succ_cons, List.take_zero, List.drop_succ_cons, List.drop_zero]
      repeat still_step
      still_call (HFI.out.mono fun e w9 h => ⟨h.1, h.2.symm⟩)
      repeat still_step
      refine wpStill_nil ?_
      go_wp2_with fail
      go_ret
      exact HFIN.out

end Go.Proofs.Ytempbaflcbmcpaa
