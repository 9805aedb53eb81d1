/- TreeLen: the walk. -/
import Derived.Test.YtempbaflcbmcpaaAwake
namespace Go.Proofs.Ytempbaflcbmcpaa
open Go.RowKit

def StrsIn (w : World) (v : Value) (l : List ByteArray) : Prop :=
  ∃ p c, v = .slice p l.length c ∧ ∀ i (h : i < l.length), ∃ a : Addr, p = some a ∧ w.cell? (a.add i) = some (.string l[i])
theorem StrsIn.chg {S : Nat → Prop} {w w' : World} {v : Value} {l : List ByteArray} (h : StrsIn w v l) (hc : Chg S w w') (hS : ∀ x, x < w.heap.size → ¬ S x) : StrsIn w' v l := by
  obtain ⟨p, c, hv, h⟩ := h
  refine ⟨p, c, hv, fun i hi => ?_⟩
  obtain ⟨a, ha, h1⟩ := h i hi
  exact ⟨a, ha, hc.cell h1 (hS _ (World.block_lt_of_cell? w _ h1))⟩

theorem get_del (k : ByteArray) : ∀ l : KV, get k (del k l) = none
  | [] => rfl
  | x :: l => by
    have ih := get_del k l
    unfold del at ih ⊢
    by_cases h : x.1 = k
    · simp [h, ih]
    · simp [h, get, ih]
theorem length_del_le (k : ByteArray) (l : KV) : (del k l).length ≤ l.length := by unfold del; exact List.length_filter_le _ _

set_option maxRecDepth 100000 in
set_option maxHeartbeats 2000000 in
theorem treeLen_calls (w : World) (v v2 : Value) (l : KV) (gone : List ByteArray) (h : PairsIn w v l) (h2 : StrsIn w v2 gone) (hlen : l.length ≤ 5000000000000) :
    Calls Try.prog 3 #[v, v2] w fun e w' => e = .returned (.bool true) ∧ Chg (fun _ => False) w w' := by
  have Hl := Lib.hid h
  have Hg := Lib.hid h2
  obtain ⟨p, c, rfl, -⟩ := h
  obtain ⟨p2, c2, rfl, -⟩ := h2
  obtain ⟨n, hn⟩ : ∃ n, n = l.length := ⟨_, rfl⟩
  obtain ⟨q, hq⟩ : ∃ q, q = gone.length := ⟨_, rfl⟩
  rw [← hn] at hlen ⊢
  rw [← hq]
  have Hn := Lib.hid hn
  have Hq := Lib.hid hq
  have Haw := Lib.hid (awake_calls w)
  clear hn hq
  go_enter Try.func3, Try.ntmps3
  go_wp2_with fail
  refine Haw.out.mono ?_
  rintro e w0 ⟨rfl, hc0⟩
  have HC0 := Lib.hid hc0
  have Hof := Lib.hid (of_calls w0 _ l (Hl.out.chg hc0 (fun _ _ h => h)) (by rw [← Hn.out]; exact hlen))
  rw [← Hn.out] at Hof
  clear hc0 Haw
  go_wp2_with fail
  refine Hof.out.mono ?_
  rintro e w1 ⟨tb, S1, rfl, hT, hS, hc⟩
  have HT := Lib.hid hT
  have HS := Lib.hid (show ∀ x ∈ S1, w.heap.size ≤ x from fun x hx => Nat.le_trans HC0.out.size (hS x hx))
  have HC := Lib.hid (HC0.out.trans hc (fun _ _ h => h))
  have HL := Lib.hid (length_puts l)
  clear hT hS hc Hof HC0
  unfold ptr
  go_wp2
  go_loopg [7] q (fun j z wr => ∃ m : Nat, m + j = q ∧ z = .int .i64 m ∧ ∃ S kv, TreeAt wr tb S kv ∧ kv.length ≤ n ∧ (∀ x ∈ S, w.heap.size ≤ x) ∧ Chg (fun _ => False) w wr)
  case atStart => exact ⟨0, by omega, rfl, S1, puts l, HT.out, by rw [Hn.out]; exact HL.out, HS.out, HC.out⟩
  case round =>
    obtain ⟨m, hmj, rfl, S, kv, hT, hkn, hS, hc⟩ := hrel
    clear HT HS HC HL
    have HT := Lib.hid hT
    have HS := Lib.hid hS
    have HC := Lib.hid hc
    have hwb : m < 200 → IntKind.i64.wrap ((m : Int) + 1) = (m : Int) + 1 := fun h => IntWalk.i64_in _ (by omega)
    obtain ⟨a, ha⟩ : ∃ a, a = kv.length := ⟨_, rfl⟩
    have Ha := Lib.hid ha
    have Hlen := Lib.hid (len_calls wr tb S kv hT)
    rw [← ha] at Hlen hkn
    unfold ptr at Hlen
    clear hT hS hc
    by_cases hlt : m < q
    · by_cases h200 : m < 200
      · have hw1 := hwb h200
        clear hwb
        have hml : m < gone.length := by rw [← Hq.out]; exact hlt
        obtain ⟨p', c', he, hp⟩ := Hg.out
        cases he
        obtain ⟨ad, rfl, hk0⟩ := hp m hml
        obtain ⟨key, hkey⟩ : ∃ key, key = gone[m] := ⟨_, rfl⟩
        rw [← hkey] at hk0
        have hk1 : wr.cell? (ad.add m) = some (.string key) := HC.out.cell hk0 (fun h => h)
        have Hk0 := Lib.hid hk0
        clear hp hkey ha hk0
        have Hget := Lib.hid (get_tree wr tb S kv key HT.out)
        unfold ptr at Hget
        go_wp2_with fail
        refine Hlen.out.mono ?_
        rintro e w' ⟨rfl, rfl⟩
        clear Hlen
        go_wp2_with fail
        refine Hget.out.mono ?_
        rintro e w2 ⟨rfl, hc2⟩
        obtain ⟨gv, hgv⟩ : ∃ gv, gv = valueOf (get key kv) := ⟨_, rfl⟩
        rw [← hgv]
        have hk2 : w2.cell? (ad.add m) = some (.string key) := hc2.cell hk1 (fun h => h)
        have HT2 := Lib.hid (HT.out.chg hc2 (fun _ _ h => h))
        have HC2 := Lib.hid (HC.out.trans hc2 (fun _ _ h => h))
        have Hdel := Lib.hid (delete_tree w2 tb S kv key HT2.out (by rw [← Ha.out]; omega))
        unfold ptr at Hdel
        clear hgv hc2 hk1 HT HC Hget
        go_wp2_with fail
        refine Hdel.out.mono ?_
        rintro e w3 ⟨rfl, S', hT', hS', hc'⟩
        have hsz := HC2.out.size
        have hS3 : ∀ x ∈ S', w.heap.size ≤ x := fun x hx => by
          rcases hS' x hx with h | h
          · exact HS.out x h
          · omega
        have hC3 : Chg (fun _ => False) w w3 := HC2.out.trans hc' (fun x hx h => by have := HS.out x h; omega)
        have hk3 : w3.cell? (ad.add m) = some (.string key) := hC3.cell Hk0.out (fun h => h)
        have HT3 := Lib.hid hT'
        have HS3 := Lib.hid hS3
        have HC3 := Lib.hid hC3
        obtain ⟨a', ha'⟩ : ∃ a', a' = (del key kv).length := ⟨_, rfl⟩
        have Hlen3 := Lib.hid (len_calls w3 tb S' _ hT')
        rw [← ha'] at Hlen3
        have Hget3 := Lib.hid (get_tree w3 tb S' _ key hT')
        unfold ptr at Hlen3 Hget3
        have hle : a' ≤ n := by rw [ha']; exact Nat.le_trans (length_del_le key kv) (by rw [← Ha.out]; exact hkn)
        have hln := length_del key kv HT2.out.srt
        have Ha' := Lib.hid ha'
        clear hT' hS' hc' hsz hS3 hC3 hk2 HT2 HS HC2 Hdel ha' hkn
        go_wp2_with fail
        refine Hlen3.out.mono ?_
        rintro e w' ⟨rfl, rfl⟩
        clear Hlen3
        cases hb : get key kv with
        | none =>
          have hz : a' = a := by rw [Ha'.out, Ha.out, hln.1 hb]
          subst hz
          clear hb hln
          simp only [Option.isSome]
          go_wp2_with fail
          refine Hget3.out.mono ?_
          intro e w4 hp
          unfold GetPost at hp
          rw [get_del] at hp
          obtain ⟨rfl, hc4⟩ := hp
          have HT4 := Lib.hid (HT3.out.chg hc4 (fun _ _ h => h))
          have HC4 := Lib.hid (HC3.out.trans hc4 (fun _ _ h => h))
          clear hc4 hk3 HT3 HC3 Hget3
          simp only [Option.isSome, valueOf]
          go_wp2
          go_roundg (gk - 1)
          case measure => omega
          case rel => exact ⟨m + 1, by omega, by go_num, S', del key kv, HT4.out, by rw [← Ha'.out]; exact hle, HS3.out, HC4.out⟩
        | some x =>
          have hz : a = a' + 1 := by rw [Ha'.out, Ha.out, ← hln.2 (by rw [hb]; simp)]
          subst hz
          have hwm : IntKind.i64.wrap (((a' + 1 : Nat) : Int) - 1) = (a' : Int) := by
            rw [show ((a' + 1 : Nat) : Int) - 1 = (a' : Int) by omega]; exact IntWalk.i64_in _ (by omega)
          have hwm2 : IntKind.i64.wrap ((a' : Int) + 1 - 1) = (a' : Int) := by
            rw [show (a' : Int) + 1 - 1 = (a' : Int) by omega]; exact IntWalk.i64_in _ (by omega)
          clear hb hln
          simp only [Option.isSome]
          go_wp2_with fail
          refine Hget3.out.mono ?_
          intro e w4 hp
          unfold GetPost at hp
          rw [get_del] at hp
          obtain ⟨rfl, hc4⟩ := hp
          have HT4 := Lib.hid (HT3.out.chg hc4 (fun _ _ h => h))
          have HC4 := Lib.hid (HC3.out.trans hc4 (fun _ _ h => h))
          clear hc4 hk3 HT3 HC3 Hget3
          simp only [Option.isSome, valueOf]
          go_wp2
          go_roundg (gk - 1)
          case measure => omega
          case rel => exact ⟨m + 1, by omega, by go_num, S', del key kv, HT4.out, by rw [← Ha'.out]; exact hle, HS3.out, HC4.out⟩
      · have h200' : decide ((m : Int) < 200) = false := decide_eq_false (by omega)
        clear hwb
        have Hall := Lib.hid (all_calls wr tb S kv HT.out (by rw [← Ha.out]; omega))
        unfold ptr at Hall
        clear ha
        go_wp2_with fail
        refine Hlen.out.mono ?_
        rintro e w' ⟨rfl, rfl⟩
        clear Hlen
        go_wp2_with fail
        refine Hall.out.mono ?_
        rintro e w2 ⟨v9, rfl, ho, hc⟩
        rw [← Ha.out] at ho
        obtain ⟨p9, c9, hv9⟩ := slice_formB ho
        subst hv9
        have HC2 := Lib.hid (HC.out.trans hc (fun _ _ h => h))
        clear ho hc Hall
        go_wp2
        go_ret
        exact ⟨rfl, HC2.out⟩
    · have hq' : decide ((m : Int) < (q : Int)) = false := decide_eq_false (by omega)
      clear hwb
      have Hall := Lib.hid (all_calls wr tb S kv HT.out (by rw [← Ha.out]; omega))
      unfold ptr at Hall
      clear ha
      go_wp2_with fail
      refine Hlen.out.mono ?_
      rintro e w' ⟨rfl, rfl⟩
      clear Hlen
      go_wp2_with fail
      refine Hall.out.mono ?_
      rintro e w2 ⟨v9, rfl, ho, hc⟩
      rw [← Ha.out] at ho
      obtain ⟨p9, c9, hv9⟩ := slice_formB ho
      subst hv9
      have HC2 := Lib.hid (HC.out.trans hc (fun _ _ h => h))
      clear ho hc Hall
      go_wp2
      go_ret
      exact ⟨rfl, HC2.out⟩

end Go.Proofs.Ytempbaflcbmcpaa
