/- The reference: Put. -/
import Derived.Test.YtempbaflcbmcpaaRefA
import Derived.Deep.Cut
namespace Go.Proofs.Ytempbaflcbmcpaa
open Go.RowKit

set_option maxRecDepth 100000 in
set_option maxHeartbeats 2000000 in
theorem refPut_calls (w : World) (rb : Nat) (R : List Nat) (L : KV) (k v : ByteArray) (h : RefIs w rb R L) (hs : Srt L) (hlen : L.length ≤ 5000000000000) :
    Calls Try.prog 18 #[ptr rb, .string k, .string v] w (RefPost rb R L (ins k v L) (get k L).isSome w) := by
  have Hat := Lib.hid (at_calls w rb R L k h hs hlen)
  obtain ⟨vv, hb, ho, hR, hrn⟩ := h
  obtain ⟨p, c, hv⟩ := slice_form ho
  subst hv
  obtain ⟨n, hn⟩ : ∃ n, n = L.length := ⟨_, rfl⟩
  rw [← hn] at hb ho hlen hR hrn
  have Hb := Lib.hid hb
  have Ho := Lib.hid ho
  have Hs := Lib.hid hs
  have Hn := Lib.hid hn
  have HR := Lib.hid hR
  have Hrn := Lib.hid hrn
  have hrl := lt_of_heap hb
  clear hb ho hs hn hR hrn
  unfold ptr at Hat
  unfold ptr
  go_enter Try.func18, Try.ntmps18
  go_wp2_with fail
  refine Hat.out.mono ?_
  rintro e w1 ⟨i, b, hp, rfl, hc⟩
  rw [hp.isSome Hs.out]
  have Hp := Lib.hid hp
  have hb1 := hc.at Hb.out (fun h => h)
  have h0c : w1.cell? ⟨rb, 0, none⟩ = some (.slice p n c) := cell_at hb1 0
  have hrl1 := lt_of_heap hb1
  have ho1 := ownsRow_chg hc Ho.out (fun _ _ h => h)
  have hil : i ≤ n := by rw [Hn.out]; exact hp.pos.1
  have Hc := Lib.hid hc
  clear hp hc Hat hb1
  cases b with
  | true =>
    obtain ⟨hi, he⟩ := Hp.out.yes rfl
    have hin : i < n := by rw [Hn.out]; exact hi
    rcases ho1.2 with ⟨-, h0⟩ | ⟨g, cap, cur, hf, -, hg, hnc, -, hcs, -⟩
    · omega
    cases hf
    have hf1 : w1.frozen? ⟨g, i * 2 + 1, none⟩ = false := free_at hg _
    obtain ⟨oldv, hc1⟩ : ∃ oldv, w1.cell? ⟨g, i * 2 + 1, none⟩ = some oldv := ⟨cur[i * 2 + 1]'(by omega), by rw [cell_at hg, Array.getElem?_eq_getElem]⟩
    have Hf := Lib.hid (ref_found (v := v) HR.out Hrn.out Hn.out Hb.out Ho.out Hc.out Hs.out Hp.out)
    clear ho1 hg hcs
    go_wp2
    go_ret
    rw [Hp.out.isSome Hs.out]
    exact Hf.out
  | false =>
    have hrow0 := empty_row w1
    have hins := Hp.out.pos.ins_not v Hs.out (Hp.out.no rfl)
    have hil' := ins_len (v := v) Hs.out Hp.out
    cases p with
    | none =>
      obtain ⟨rfl, rfl⟩ : n = 0 ∧ c = 0 := by
        rcases ho1.2 with ⟨hf, h0⟩ | ⟨g, cap, cur, hf, -⟩
        · cases hf; exact ⟨h0, rfl⟩
        · cases hf
      have hL : L = [] := List.eq_nil_of_length_eq_zero Hn.out.symm
      obtain rfl : i = 0 := by omega
      obtain ⟨p1, c1, w2, hr1, ho2, hch1⟩ := app_none hrow0
      have hcA : Chg (w1.heap.size ≤ ·) w1 w2 := (Chg.alloc (w1.heap.size ≤ ·) w1 _).trans hch1 (fun _ _ h => h)
      obtain ⟨p2, c2, w3, hr2, ho3, hch2⟩ := app_pair (k := k) (v := v) ho2 rfl (by omega) hcA.size
      have hcB := hcA.trans hch2 (fun _ _ h => h)
      obtain ⟨g2, c2', hf2, -, -, -⟩ := row_form (ownsRow_le ho3 (Nat.zero_le _)) (by omega)
      cases hf2
      obtain ⟨p3, c3, w4, hr3, ho4, hch3⟩ := app_none ho3
      have hcC := hcB.trans hch3 (fun _ _ h => h)
      have hfin := ref_new (L := L) (L' := ins k v L) (b := false) HR.out (by rw [hil', ← Hn.out]) Hb.out Hc.out hcC (by rw [hL]; exact ho4)
      obtain ⟨q1, q2, q3, q4⟩ := hfin
      have h0c2 : w3.cell? ⟨rb, 0, none⟩ = some (.slice none 0 0) := hcB.cell h0c (by show ¬ w1.heap.size ≤ rb; omega)
      have h0c1 : w2.cell? ⟨rb, 0, none⟩ = some (.slice none 0 0) := hcA.cell h0c (by show ¬ w1.heap.size ≤ rb; omega)
      have Hr1 := Lib.hid hr1
      have Hr2 := Lib.hid hr2
      have Hr3 := Lib.hid hr3
      clear hr1 hr2 hr3 ho1 ho2 ho3 ho4 hch1 hch2 hch3 hcA hcB hcC hrow0 hins hil'
      go_upto_region 5 with (fail)
      go_upto_region 6 with (at_builtin; refine Lib.wpList_append_run _ rfl _ _ _ _ rfl _ _ rfl rfl _ _ (Hr1.out _) ?_)
      go_upto_region 7 with (at_builtin; refine Lib.wpList_append_run _ rfl _ _ _ _ rfl _ _ rfl rfl _ _ (Hr2.out _) ?_)
      go_wp2_with (at_builtin; refine Lib.wpList_append_run _ rfl _ _ _ _ rfl _ _ rfl rfl _ _ (Hr3.out _) ?_)
      go_ret
      rw [Hp.out.isSome Hs.out]
      exact q4.out
    | some a =>
      obtain ⟨g, cap, cur, hf, hg, hnc⟩ : ∃ g cap cur, Value.slice (some a) n c = .slice (some ⟨g, 0, none⟩) n cap ∧ w1.heap[g]? = some (.cells cur 47 (0, 0)) ∧ n ≤ cap := by
        rcases ho1.2 with ⟨hf, h0⟩ | ⟨g, cap, cur, hf, -, hg, hnc, -⟩
        · cases hf
        · exact ⟨g, cap, cur, hf, hg, hnc⟩
      cases hf
      have hcell : ∀ j u, (leafCells L)[j]? = some u → w1.cell? ⟨g, j, none⟩ = some u := fun j u hj => by
        have := ho1.cells (g := g) rfl j u hj
        rwa [Addr.add_lit, Nat.zero_add] at this
      have hgl := lt_of_heap hg
      have hcA0 := Chg.alloc (w1.heap.size ≤ ·) w1 (.cells #[] 47 (0, 0))
      obtain ⟨p1, c1, w2, hr1, ho2, hch1⟩ := app_some (r := i) (m := i) (c := c) (news := leafCells (L.take i)) (a := ⟨g, 0, none⟩) hrow0 (by omega) (by rw [length_leafCells, List.length_take, Nat.min_eq_left (by rw [← Hn.out]; exact hil)])
        (fun j u hj => hcA0.cell (by have := leafCells_at (o := 0) (n := i) hcell (L.take i) (by simp) j u hj; simpa using this) (by rw [Addr.add_lit]; show ¬ w1.heap.size ≤ g; omega)) (leafCells_one _) (by omega) (by simp)
      rw [List.nil_append] at ho2
      have hcA := hcA0.trans hch1 (fun _ _ h => h)
      obtain ⟨p2, c2, w3, hr2, ho3, hch2⟩ := app_pair (k := k) (v := v) ho2 rfl (by omega) hcA.size
      have hcB := hcA.trans hch2 (fun _ _ h => h)
      have h0c1 : w2.cell? ⟨rb, 0, none⟩ = some (.slice (some ⟨g, 0, none⟩) n c) := hcA.cell h0c (by show ¬ w1.heap.size ≤ rb; omega)
      have h0c2 : w3.cell? ⟨rb, 0, none⟩ = some (.slice (some ⟨g, 0, none⟩) n c) := hcB.cell h0c (by show ¬ w1.heap.size ≤ rb; omega)
      have hA3 : App w1.heap.size (n + 1) (.slice p2 (i + 1) c2) (leafCells (ins k v L)) (.slice (if c = i then some ⟨g, 0, none⟩ else some ⟨g, i * 2, none⟩) (n - i) (c - i)) w3 := by
        have e : leafCells (ins k v L) = (leafCells (L.take i) ++ [.string k, .string v]) ++ leafCells (L.drop i) := by
          rw [hins, leafCells_append]
          simp [leafCells, cellsOf]
        rw [e]
        by_cases hci : c = i
        · rw [if_pos hci, show n - i = 0 by omega, List.drop_eq_nil_of_le (by rw [← Hn.out]; omega)]
          exact app_some ho3 (by omega) rfl (fun j u hj => by cases hj) (fun u hu => by cases hu) (by omega) hcB.size
        · rw [if_neg hci]
          exact app_some ho3 (by omega) (by rw [length_leafCells, List.length_drop, ← Hn.out])
            (fun j u hj => hcB.cell (leafCells_at (o := i) (n := n - i) hcell (L.drop i) (by rw [List.take_of_length_le (by rw [List.length_drop, ← Hn.out]; omega)]) j u hj) (by rw [Addr.add_lit]; show ¬ w1.heap.size ≤ g; omega)) (leafCells_one _) (by omega) hcB.size
      obtain ⟨p3, c3, w4, hr3, ho4, hch3⟩ := hA3
      have hcC := hcB.trans hch3 (fun _ _ h => h)
      obtain ⟨q1, q2, q3, q4⟩ := ref_new (L := L) (L' := ins k v L) (b := false) HR.out (by rw [hil', ← Hn.out]) Hb.out Hc.out hcC ho4
      have Hr1 := Lib.hid hr1
      have Hr2 := Lib.hid hr2
      have Hr3 := Lib.hid hr3
      clear hr1 hr2 hr3 ho1 ho2 ho3 ho4 hch1 hch2 hch3 hcA hcB hcC hrow0 hins hil' hcell hg hcA0
      by_cases hci : c = i
      · subst hci
        rw [if_pos rfl, Nat.sub_self, show n - c = 0 by omega] at Hr3
        go_upto_region 5 with (fail)
        go_upto_region 6 with (at_builtin; refine Lib.wpList_append_run _ rfl _ _ _ _ rfl _ _ rfl rfl _ _ (Hr1.out _) ?_)
        go_upto_region 7 with (at_builtin; refine Lib.wpList_append_run _ rfl _ _ _ _ rfl _ _ rfl rfl _ _ (Hr2.out _) ?_)
        go_wp2_with (at_builtin; refine Lib.wpList_append_run _ rfl _ _ _ _ rfl _ _ rfl rfl _ _ (Hr3.out _) ?_)
        go_ret
        rw [Hp.out.isSome Hs.out]
        exact q4.out
      · rw [if_neg hci] at Hr3
        go_upto_region 5 with (fail)
        go_upto_region 6 with (at_builtin; refine Lib.wpList_append_run _ rfl _ _ _ _ rfl _ _ rfl rfl _ _ (Hr1.out _) ?_)
        go_upto_region 7 with (at_builtin; refine Lib.wpList_append_run _ rfl _ _ _ _ rfl _ _ rfl rfl _ _ (Hr2.out _) ?_)
        go_wp2_with (at_builtin; refine Lib.wpList_append_run _ rfl _ _ _ _ rfl _ _ rfl rfl _ _ (Hr3.out _) ?_)
        go_ret
        rw [Hp.out.isSome Hs.out]
        exact q4.out


end Go.Proofs.Ytempbaflcbmcpaa
