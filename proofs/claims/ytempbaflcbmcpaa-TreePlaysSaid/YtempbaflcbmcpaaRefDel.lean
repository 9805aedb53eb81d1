/- The reference: Delete. -/
import Derived.Test.YtempbaflcbmcpaaRefA
import Derived.Deep.Cut
namespace Go.Proofs.Ytempbaflcbmcpaa
open Go.RowKit

set_option maxRecDepth 100000 in
set_option maxHeartbeats 2000000 in
theorem refDelete_calls (w : World) (rb : Nat) (R : List Nat) (L : KV) (k : ByteArray) (h : RefIs w rb R L) (hs : Srt L) (hlen : L.length ≤ 5000000000000) :
    Calls Try.prog 25 #[ptr rb, .string k] w (RefPost rb R L (del k L) (get k L).isSome w) := by
  have Hat := Lib.hid (at_calls w rb R L k h hs hlen)
  have Hsame := Lib.hid h
  obtain ⟨vv, hb, ho, hR, hrn⟩ := h
  obtain ⟨p, c, hv⟩ := slice_form ho
  subst hv
  obtain ⟨n, hn⟩ : ∃ n, n = L.length := ⟨_, rfl⟩
  rw [← hn] at hb ho hlen hR hrn
  have Hb := Lib.hid hb
  have Ho := Lib.hid ho
  have Hs := Lib.hid hs
  have Hn := Lib.hid hn
  have HR := Lib.hid hR
  have hrl := lt_of_heap hb
  clear hb ho hs hn hR hrn
  unfold ptr at Hat
  unfold ptr
  go_enter Try.func25, Try.ntmps25
  go_wp2_with fail
  refine Hat.out.mono ?_
  rintro e w1 ⟨i, b, hp, rfl, hc⟩
  rw [hp.isSome Hs.out]
  have Hp := Lib.hid hp
  have hb1 := hc.at Hb.out (fun h => h)
  have h0c : w1.cell? ⟨rb, 0, none⟩ = some (.slice p n c) := cell_at hb1 0
  have hrl1 := lt_of_heap hb1
  have ho1 := ownsRow_chg hc Ho.out (fun _ _ h => h)
  have Hc := Lib.hid hc
  clear hp hc Hat hb1
  cases b with
  | false =>
    have hd : del k L = L := Hp.out.pos.del_not Hs.out (Hp.out.no rfl)
    have Hf : Hid (RefPost rb R L (del k L) false w (.returned (.bool false)) w1) := ⟨rfl, R, by rw [hd]; exact Hsame.out.chg Hc.out (fun _ _ h => h), fun x hx => .inl hx, Hc.out.mono (fun _ _ h => h.elim)⟩
    clear ho1 hd
    go_wp2
    go_ret
    rw [Hp.out.isSome Hs.out]
    exact Hf.out
  | true =>
    obtain ⟨hi, he⟩ := Hp.out.yes rfl
    have hin : i < n := by rw [Hn.out]; exact hi
    have hrow0 := empty_row w1
    have hdel := Hp.out.pos.del_found Hs.out hi he
    have hdl : (del k L).length + 1 = n := by rw [Hn.out]; exact (length_del k L Hs.out).2 (by rw [Hp.out.pos.get_found Hs.out hi he]; simp)
    obtain ⟨m, hm⟩ : ∃ m, n = m + 1 := ⟨n - 1, by omega⟩
    obtain ⟨g, cap, cur, hf, hg, hnc⟩ : ∃ g cap cur, Value.slice p n c = .slice (some ⟨g, 0, none⟩) n cap ∧ w1.heap[g]? = some (.cells cur 47 (0, 0)) ∧ n ≤ cap := by
      rcases ho1.2 with ⟨hf, h0⟩ | ⟨g, cap, cur, hf, -, hg, hnc, -⟩
      · omega
      · exact ⟨g, cap, cur, hf, hg, hnc⟩
    cases hf
    have hcell : ∀ j u, (leafCells L)[j]? = some u → w1.cell? ⟨g, j, none⟩ = some u := fun j u hj => by
      have := ho1.cells (g := g) rfl j u hj
      rwa [Addr.add_lit, Nat.zero_add] at this
    have hgl := lt_of_heap hg
    have hcA0 := Chg.alloc (w1.heap.size ≤ ·) w1 (.cells #[] 47 (0, 0))
    obtain ⟨p1, c1, w2, hr1, ho2, hch1⟩ := app_some (r := i) (m := i) (c := c) (news := leafCells (L.take i)) (a := ⟨g, 0, none⟩) hrow0 (by omega) (by rw [length_leafCells, List.length_take, Nat.min_eq_left (by rw [← Hn.out]; omega)])
      (fun j u hj => hcA0.cell (by have := leafCells_at (o := 0) (n := i) hcell (L.take i) (by simp) j u hj; simpa using this) (by rw [Addr.add_lit]; show ¬ w1.heap.size ≤ g; omega)) (leafCells_one _) (by omega) (by simp)
    rw [List.nil_append] at ho2
    have hcA := hcA0.trans hch1 (fun _ _ h => h)
    have h0c1 : w2.cell? ⟨rb, 0, none⟩ = some (.slice (some ⟨g, 0, none⟩) n c) := hcA.cell h0c (by show ¬ w1.heap.size ≤ rb; omega)
    have hwi : IntKind.i64.wrap ((i : Int) + 1) = (i : Int) + 1 := IntWalk.i64_in _ (by omega)
    have hi0 : (0 : Int) ≤ (i : Int) + 1 := by omega
    have hi1 : (i : Int) + 1 ≤ (n : Int) := by omega
    have hi2 : ((i : Int) + 1).toNat = i + 1 := by omega
    have hA3 : App w1.heap.size m (.slice p1 i c1) (leafCells (del k L)) (.slice (if c = i + 1 then some ⟨g, 0, none⟩ else some ⟨g, (i + 1) * 2, none⟩) (n - (i + 1)) (c - (i + 1))) w2 := by
      rw [hdel, leafCells_append]
      by_cases hci : c = i + 1
      · rw [if_pos hci, show n - (i + 1) = 0 by omega, List.drop_eq_nil_of_le (by rw [← Hn.out]; omega)]
        exact app_some ho2 (by omega) rfl (fun j u hj => by cases hj) (fun u hu => by cases hu) (by omega) hcA.size
      · rw [if_neg hci]
        exact app_some ho2 (by omega) (by rw [length_leafCells, List.length_drop, ← Hn.out])
          (fun j u hj => hcA.cell (leafCells_at (o := i + 1) (n := n - (i + 1)) hcell (L.drop (i + 1)) (by rw [List.take_of_length_le (by rw [List.length_drop, ← Hn.out]; omega)]) j u hj) (by rw [Addr.add_lit]; show ¬ w1.heap.size ≤ g; omega)) (leafCells_one _) (by omega) hcA.size
    obtain ⟨p3, c3, w4, hr3, ho4, hch3⟩ := hA3
    have hcC := hcA.trans hch3 (fun _ _ h => h)
    obtain ⟨q1, q2, q3, q4⟩ := ref_new (L := L) (L' := del k L) (b := true) HR.out (by omega) Hb.out Hc.out hcC ho4
    have Hr1 := Lib.hid hr1
    have Hr3 := Lib.hid hr3
    have Hm := Lib.hid hm
    clear hm hr1 hr3 ho1 ho2 ho4 hch1 hch3 hcA hcC hrow0 hdel hdl hcell hg hcA0
    by_cases hci : c = i + 1
    · subst hci
      rw [if_pos rfl, Nat.sub_self, show n - (i + 1) = 0 by omega] at Hr3
      go_upto_region 4 with (fail)
      go_upto_region 5 with (at_builtin; refine Lib.wpList_append_run _ rfl _ _ _ _ rfl _ _ rfl rfl _ _ (Hr1.out _) ?_)
      go_wp2_with (at_builtin; refine Lib.wpList_append_run _ rfl _ _ _ _ rfl _ _ rfl rfl _ _ (Hr3.out _) ?_)
      go_ret
      rw [Hp.out.isSome Hs.out]
      exact q4.out
    · rw [if_neg hci] at Hr3
      go_upto_region 4 with (fail)
      go_upto_region 5 with (at_builtin; refine Lib.wpList_append_run _ rfl _ _ _ _ rfl _ _ rfl rfl _ _ (Hr1.out _) ?_)
      go_wp2_with (at_builtin; refine Lib.wpList_append_run _ rfl _ _ _ _ rfl _ _ rfl rfl _ _ (Hr3.out _) ?_)
      go_ret
      rw [Hp.out.isSome Hs.out]
      exact q4.out

end Go.Proofs.Ytempbaflcbmcpaa
