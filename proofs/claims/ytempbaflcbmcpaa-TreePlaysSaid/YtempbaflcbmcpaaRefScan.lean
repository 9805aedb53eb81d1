/- The reference: Scan. -/
import Derived.Test.YtempbaflcbmcpaaRefA
namespace Go.Proofs.Ytempbaflcbmcpaa
open Go.RowKit

/-- What the reference's scan gathers. -/
def refScan (most : Int) (fr to : ByteArray) : KV → KV → KV
  | acc, [] => acc
  | acc, x :: r => if most ≤ (acc.length : Int) then acc else if (! lt x.1 fr && (! notEmpty to || lt x.1 to)) = true then refScan most fr to (acc ++ [x]) r else refScan most fr to acc r

theorem refScan_full {most : Int} {fr to : ByteArray} {acc : KV} (h : most ≤ (acc.length : Int)) : ∀ l, refScan most fr to acc l = acc
  | [] => rfl
  | x :: r => by unfold refScan; rw [if_pos h]
theorem refScan_skip {most : Int} {fr to : ByteArray} {acc : KV} : ∀ l K : KV, (∀ y ∈ l, (! lt y.1 fr && (! notEmpty to || lt y.1 to)) = false) → refScan most fr to acc (l ++ K) = refScan most fr to acc K
  | [], _, _ => rfl
  | x :: r, K, h => by
    have ih := refScan_skip (most := most) (acc := acc) r K (fun y hy => h y (by simp [hy]))
    rw [List.cons_append]
    by_cases hm : most ≤ (acc.length : Int)
    · rw [refScan_full hm, refScan_full hm]
    · conv => lhs; unfold refScan
      rw [if_neg hm, h x (by simp)]
      simpa using ih
theorem refScan_scan {most : Int} {fr to : ByteArray} : ∀ (K acc : KV), Srt K → (∀ y ∈ K, lt y.1 fr = false) → refScan most fr to acc K = (scan most to acc K).1
  | [], acc, _, _ => rfl
  | x :: r, acc, hs, hf => by
    have hs2 := List.pairwise_cons.1 hs
    have h1 := hf x (by simp)
    unfold refScan scan stop
    by_cases hm : most ≤ (acc.length : Int)
    · simp [hm]
    · rw [if_neg hm]
      cases hn : notEmpty to
      · simp only [h1, hm, decide_false, Bool.not_false, Bool.true_or, Bool.and_self, if_true, Bool.false_and, Bool.or_self, Bool.false_eq_true, if_false]
        exact refScan_scan r (acc ++ [x]) hs2.2 (fun y hy => hf y (by simp [hy]))
      · cases hl : lt x.1 to
        · simp only [h1, hm, decide_false, Bool.not_false, Bool.not_true, Bool.or_self, Bool.and_false, Bool.false_eq_true, if_false, Bool.true_and, Bool.or_true, if_true]
          have := refScan_skip (most := most) (fr := fr) (to := to) (acc := acc) r [] (fun y hy => by
            have : lt y.1 to = false := by
              cases hy2 : lt y.1 to with
              | false => rfl
              | true => rw [lt_trans (hs2.1 y hy) hy2] at hl; cases hl
            simp [hn, this])
          rw [List.append_nil] at this
          rw [this]; rfl
        · simp only [h1, hm, decide_false, Bool.not_false, Bool.not_true, Bool.or_true, Bool.and_self, if_true, Bool.and_false, Bool.or_self, Bool.false_eq_true, if_false]
          exact refScan_scan r (acc ++ [x]) hs2.2 (fun y hy => hf y (by simp [hy]))
theorem mem_takeWhile {α : Type} {p : α → Bool} : ∀ {l : List α} {x : α}, x ∈ l.takeWhile p → p x = true
  | y :: r, x, h => by
    rw [List.takeWhile_cons] at h
    split at h
    · rename_i hy
      rcases List.mem_cons.1 h with rfl | h
      · exact hy
      · exact mem_takeWhile h
    · cases h
theorem fromOf_ge {fr : ByteArray} : ∀ {L : KV}, Srt L → ∀ y ∈ fromOf fr L, lt y.1 fr = false
  | x :: r, hs, y, hy => by
    have hs2 := List.pairwise_cons.1 hs
    unfold fromOf at hy
    rw [List.dropWhile_cons] at hy
    split at hy
    · exact fromOf_ge hs2.2 y hy
    · rename_i hx
      rcases List.mem_cons.1 hy with rfl | hy
      · simpa using hx
      · cases h : lt y.1 fr with
        | false => rfl
        | true => exact absurd (lt_trans (hs2.1 y hy) h) hx
theorem refScan_eq {most : Int} {fr to : ByteArray} {L : KV} (hs : Srt L) : refScan most fr to [] L = (scan most to [] (fromOf fr L)).1 := by
  have e : L = L.takeWhile (fun x => lt x.1 fr) ++ fromOf fr L := (List.takeWhile_append_dropWhile ..).symm
  conv => lhs; rw [e]
  rw [refScan_skip _ _ (fun y hy => by simp [mem_takeWhile hy])]
  exact refScan_scan _ _ (hs.sublist (List.dropWhile_sublist _)) (fromOf_ge hs)

set_option maxRecDepth 100000 in
set_option maxHeartbeats 4000000 in
theorem refScan_calls (w : World) (rb : Nat) (R : List Nat) (L : KV) (fr to : ByteArray) (most : Int) (h : RefIs w rb R L) (hlen : L.length ≤ 5000000000000) :
    Calls Try.prog 27 #[ptr rb, .string fr, .string to, .int .i64 most] w (ScanPost (refScan most fr to [] L) w) := by
  obtain ⟨vv, hb, ho, -, -⟩ := h
  obtain ⟨p, c, hv⟩ := slice_form ho
  subst hv
  obtain ⟨n, hn⟩ : ∃ n, n = L.length := ⟨_, rfl⟩
  rw [← hn] at hb ho hlen
  have Hb := Lib.hid hb
  have Ho := Lib.hid ho
  have Hn := Lib.hid hn
  clear hb ho hn
  unfold ptr
  go_enter Try.func27, Try.ntmps27
  go_wp2
  go_loopg [9, 10] n (fun j lv z wr => ∃ (m k : Nat) (acc : KV) (p' : Option Addr) (c' : Nat), m + j = n ∧ z = .int .i64 m ∧ k = acc.length ∧ lv = .slice p' k c' ∧ wr.ownsRow w.heap.size 47 2 (.slice p' k c') k (leafCells acc) ∧ refScan most fr to acc (L.drop m) = refScan most fr to [] L ∧ k ≤ m ∧ Chg (fun _ => False) w wr)
  case atStart => exact ⟨0, 0, [], none, 0, by omega, rfl, rfl, rfl, World.ownsRow_nil _ _ _ _, by simp, Nat.le_refl _, Chg.refl _ _⟩
  case round =>
    obtain ⟨m, k, acc, p', c', hmj, rfl, hk, rfl, hrow, hscan, hkm, hc⟩ := hrel
    have Hrow := Lib.hid hrow
    have Hscan := Lib.hid hscan
    have Hc := Lib.hid hc
    have Hk := Lib.hid hk
    have hb1 := hc.at Hb.out (fun h => h)
    have h0c : wr.cell? ⟨rb, 0, none⟩ = some (.slice p n c) := cell_at hb1 0
    clear hrow hscan hc hk hb1
    have hwb : IntKind.i64.wrap ((m : Int) + 1) = (m : Int) + 1 := IntWalk.i64_in _ (by omega)
    by_cases hlt : m < n
    · by_cases hmost : most ≤ (k : Int)
      · have hd : decide ((k : Int) < most) = false := decide_eq_false (by omega)
        have Hf : Hid (refScan most fr to [] L = acc) := by
          show refScan most fr to [] L = acc
          rw [← Hscan.out, refScan_full (by rw [← Hk.out]; exact hmost)]
        go_wp2
        go_ret
        exact ⟨_, rfl, by rw [Hf.out, ← Hk.out]; exact Hrow.out, Hc.out⟩
      · have hml : m < L.length := by rw [← Hn.out]; exact hlt
        have ho1 := ownsRow_chg Hc.out Ho.out (fun _ _ h => h)
        obtain ⟨g, cap, hf, hnc, -, hcell⟩ := row_form ho1 (by omega)
        cases hf
        have hk1 : wr.cell? ⟨g, m * 2, none⟩ = some (.string L[m].1) := hcell _ _ (leafCells_key L m hml)
        have hk2 : wr.cell? ⟨g, m * 2 + 1, none⟩ = some (.string L[m].2) := hcell _ _ (leafCells_val L m hml)
        obtain ⟨xk, hxk⟩ : ∃ xk, xk = L[m].1 := ⟨_, rfl⟩
        obtain ⟨xv, hxv⟩ : ∃ xv, xv = L[m].2 := ⟨_, rfl⟩
        rw [← hxk] at hk1
        rw [← hxv] at hk2
        have Hx : Hid (L[m] = (xk, xv)) := by show L[m] = (xk, xv); rw [hxk, hxv]
        clear hcell ho1 hxk hxv
        have Hstep : Hid (refScan most fr to [] L = if (! lt xk fr && (! notEmpty to || lt xk to)) = true then refScan most fr to (acc ++ [(xk, xv)]) (L.drop (m + 1)) else refScan most fr to acc (L.drop (m + 1))) := by
          show refScan most fr to [] L = _
          rw [← Hscan.out, List.drop_eq_getElem_cons hml, Hx.out]
          conv => lhs; unfold refScan
          rw [if_neg (by rw [← Hk.out]; exact hmost)]
        have hskip : (! lt xk fr && (! notEmpty to || lt xk to)) = false → Hid (refScan most fr to acc (L.drop (m + 1)) = refScan most fr to [] L) := fun h => by
          show _ = _
          rw [Hstep.out, if_neg (by rw [h]; simp)]
        have htake : (! lt xk fr && (! notEmpty to || lt xk to)) = true → Hid (refScan most fr to (acc ++ [(xk, xv)]) (L.drop (m + 1)) = refScan most fr to [] L) := fun h => by
          show _ = _
          rw [Hstep.out, if_pos h]
        obtain ⟨p2, c2, w2, hr2, ho2, hch2⟩ := app_pair (k := xk) (v := xv) Hrow.out rfl (by omega) Hc.out.size
        have Hr2 := Lib.hid hr2
        have Ho2 := Lib.hid ho2
        have Hc2 := Lib.hid (Hc.out.trans hch2 (fun x hx h => by omega))
        clear hr2 ho2 hch2 Hstep
        cases hl1 : Op.bytesLess xk.toList fr.toList
        · cases he : notEmpty to
          · have he' : to.toList.isEmpty = true := by simpa [notEmpty] using he
            have Ht := htake (by unfold lt; rw [hl1, he]; rfl)
            clear htake hskip he
            go_wp2_with (at_builtin; refine Lib.wpList_append_run _ rfl _ _ _ _ rfl _ _ rfl rfl _ _ (Hr2.out _) ?_)
            go_roundg (gk - 1)
            case measure => omega
            case rel => exact ⟨m + 1, k + 1, acc ++ [(xk, xv)], p2, c2, by omega, by go_num, by rw [List.length_append, ← Hk.out]; rfl, rfl, by rw [leafCells_snoc]; exact Ho2.out, Ht.out, by omega, Hc2.out⟩
          · have he' : to.toList.isEmpty = false := by simpa [notEmpty] using he
            cases hl2 : Op.bytesLess xk.toList to.toList
            · have Hs := hskip (by unfold lt; rw [hl1, hl2, he]; rfl)
              clear htake hskip he
              go_wp2
              go_roundg (gk - 1)
              case measure => omega
              case rel => exact ⟨m + 1, k, acc, p', c', by omega, by go_num, Hk.out, rfl, Hrow.out, Hs.out, by omega, Hc.out⟩
            · have Ht := htake (by unfold lt; rw [hl1, hl2, he]; rfl)
              clear htake hskip he
              go_wp2_with (at_builtin; refine Lib.wpList_append_run _ rfl _ _ _ _ rfl _ _ rfl rfl _ _ (Hr2.out _) ?_)
              go_roundg (gk - 1)
              case measure => omega
              case rel => exact ⟨m + 1, k + 1, acc ++ [(xk, xv)], p2, c2, by omega, by go_num, by rw [List.length_append, ← Hk.out]; rfl, rfl, by rw [leafCells_snoc]; exact Ho2.out, Ht.out, by omega, Hc2.out⟩
        · have Hs := hskip (by unfold lt; rw [hl1]; rfl)
          clear htake hskip
          go_wp2
          go_roundg (gk - 1)
          case measure => omega
          case rel => exact ⟨m + 1, k, acc, p', c', by omega, by go_num, Hk.out, rfl, Hrow.out, Hs.out, by omega, Hc.out⟩
    · have hd : decide ((m : Int) < (n : Int)) = false := decide_eq_false (by omega)
      have Hf : Hid (refScan most fr to [] L = acc) := by
        show refScan most fr to [] L = acc
        rw [← Hscan.out, List.drop_eq_nil_of_le (by rw [← Hn.out]; omega)]
        rfl
      go_wp2
      go_ret
      exact ⟨_, rfl, by rw [Hf.out, ← Hk.out]; exact Hrow.out, Hc.out⟩

end Go.Proofs.Ytempbaflcbmcpaa
