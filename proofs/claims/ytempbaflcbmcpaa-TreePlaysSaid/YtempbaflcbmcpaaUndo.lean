/- short; TreeUndo: the walk. -/
import Derived.Test.YtempbaflcbmcpaaSame
import Derived.Test.YtempbaflcbmcpaaAwake
namespace Go.Proofs.Ytempbaflcbmcpaa
open Go.RowKit

theorem depth_lt {d n : Nat} (h : 2 ^ (d + 1 + 1) ≤ n) (hn : n ≤ 5000000000000) : d + 1 < 60 := by
  apply Decidable.byContradiction
  intro hc
  have : 2 ^ 60 ≤ 2 ^ (d + 1 + 1) := Nat.pow_le_pow_right (by omega) (by omega)
  omega

set_option maxRecDepth 100000 in
theorem short_calls (w : World) (tb : Nat) (S : List Nat) (kv : KV) (h : TreeAt w tb S kv) (hlen : kv.length ≤ 5000000000000) :
    Calls Try.prog 17 #[ptr tb] w fun e w' => e = .returned (.bool true) ∧ w' = w := by
  have Hlen := Lib.hid (len_calls w tb S kv h)
  obtain ⟨d, t, h, -⟩ := h
  have hsz : 0 < d → 2 ^ (d + 1) ≤ kv.length := fun hd => by
    have := size_lb d t (WF.mono (by cases d with | zero => omega | succ d => exact Nat.le_refl 2) _ _ h.wf)
    rw [h.toL] at this
    exact this
  have hd : d ≤ 1000000 := by
    cases d with
    | zero => omega
    | succ d => have := depth_lt (hsz (by omega)) hlen; omega
  have Hdep := Lib.hid (depthN w tb d t kv h hd)
  obtain ⟨n, hn⟩ : ∃ n, n = kv.length := ⟨_, rfl⟩
  rw [← hn] at Hlen hsz hlen
  clear h hn
  unfold ptr at Hlen Hdep
  unfold ptr
  cases d with
  | zero =>
    go_enter Try.func17, Try.ntmps17
    go_wp2_with fail
    refine Hdep.out.mono ?_
    rintro e w' ⟨rfl, rfl⟩
    go_wp2_with fail
    refine Hlen.out.mono ?_
    rintro e w' ⟨rfl, rfl⟩
    go_wp2
    go_ret
    exact ⟨rfl, rfl⟩
  | succ d =>
    have h1 := hsz (by omega)
    have h60 := depth_lt h1 hlen
    have hp : 2 ^ (d + 1) ≤ n := by
      have : 2 ^ (d + 1 + 1) = 2 * 2 ^ (d + 1) := by rw [Nat.pow_succ]; omega
      omega
    have hpi : ((2 : Int) ^ (d + 1)) ≤ (n : Int) := by
      have : ((2 ^ (d + 1) : Nat) : Int) ≤ (n : Int) := Int.ofNat_le.2 hp
      simpa using this
    have hp0 : (0 : Int) ≤ (2 : Int) ^ (d + 1) := by
      have e : ((2 ^ (d + 1) : Nat) : Int) = (2 : Int) ^ (d + 1) := by simp
      rw [← e]; exact Int.natCast_nonneg _
    have hw1 : IntKind.i64.wrap ((2 : Int) ^ (d + 1)) = (2 : Int) ^ (d + 1) := IntWalk.i64_in _ (by omega)
    clear hsz h1 hp
    go_enter Try.func17, Try.ntmps17
    go_wp2_with fail
    refine Hdep.out.mono ?_
    rintro e w' ⟨rfl, rfl⟩
    go_wp2_with fail
    refine Hlen.out.mono ?_
    rintro e w' ⟨rfl, rfl⟩
    go_wp2
    go_ret
    exact ⟨rfl, rfl⟩

set_option maxRecDepth 100000 in
set_option maxHeartbeats 2000000 in
theorem treeUndo_calls (w : World) (v : Value) (l : KV) (key value : ByteArray) (h : PairsIn w v l) (hlen : l.length ≤ 4999999999999) :
    Calls Try.prog 5 #[v, .string key, .string value] w fun e w' => e = .returned (.bool true) ∧ Chg (fun _ => False) w w' := by
  have Hl := Lib.hid h
  obtain ⟨p, c, rfl, -⟩ := h
  obtain ⟨n, hn⟩ : ∃ n, n = l.length := ⟨_, rfl⟩
  rw [← hn] at hlen ⊢
  have Hn := Lib.hid hn
  have Haw := Lib.hid (awake_calls w)
  clear hn
  go_enter Try.func5, Try.ntmps5
  go_wp2_with fail
  refine Haw.out.mono ?_
  rintro e w0 ⟨rfl, hc0⟩
  have HC0 := Lib.hid hc0
  have Hof := Lib.hid (of_calls w0 _ l (Hl.out.chg hc0 (fun _ _ h => h)) (by rw [← Hn.out]; omega))
  rw [← Hn.out] at Hof
  clear hc0 Haw
  go_wp2_with fail
  refine Hof.out.mono ?_
  rintro e w1 ⟨tb, S1, rfl, hT, hS, hc⟩
  obtain ⟨kv, hkv⟩ : ∃ kv, kv = puts l := ⟨_, rfl⟩
  rw [← hkv] at hT
  have hkn : kv.length ≤ 4999999999999 := by rw [hkv]; have := length_puts l; have := Hn.out; omega
  have HT := Lib.hid hT
  have HS := Lib.hid (show ∀ x ∈ S1, w.heap.size ≤ x from fun x hx => Nat.le_trans HC0.out.size (hS x hx))
  have HC := Lib.hid (HC0.out.trans hc (fun _ _ h => h))
  have Hall := Lib.hid (all_calls w1 tb S1 kv hT (by omega))
  unfold ptr at Hall
  unfold ptr
  clear hT hS hc Hof HC0 hkv
  go_wp2_with fail
  refine Hall.out.mono ?_
  rintro e w2 ⟨v9, rfl, ho, hc⟩
  have HK := Lib.hid (kept_new (S := S1) ho HT.out.lt)
  have HT2 := Lib.hid (HT.out.chg hc (fun _ _ h => h))
  have HC2 := Lib.hid (HC.out.trans hc (fun _ _ h => h))
  have Hget := Lib.hid (get_tree w2 tb S1 kv key HT2.out)
  unfold ptr at Hget
  clear ho hc HT HC Hall
  go_wp2_with fail
  refine Hget.out.mono ?_
  rintro e w3 ⟨rfl, hc⟩
  have HK3 := Lib.hid (HK.out.quiet hc)
  have HT3 := Lib.hid (HT2.out.chg hc (fun _ _ h => h))
  have HC3 := Lib.hid (HC2.out.trans hc (fun _ _ h => h))
  have Hput := Lib.hid (put_tree w3 tb S1 kv key value HT3.out (by omega))
  unfold ptr at Hput
  clear hc HK HT2 HC2 Hget
  obtain ⟨gv, hgv⟩ : ∃ gv, gv = valueOf (get key kv) := ⟨_, rfl⟩
  rw [← hgv]
  have Hgv := Lib.hid hgv
  clear hgv
  go_wp2_with fail
  refine Hput.out.mono ?_
  rintro e w4 ⟨rfl, S4, hT, hS, hc⟩
  have HK4 := Lib.hid (HK3.out.step hc hS)
  obtain ⟨hC4, hS4⟩ := new_step HC3.out HS.out hc hS
  have HT4 := Lib.hid hT
  have HS4 := Lib.hid hS4
  have HC4 := Lib.hid hC4
  have Hget4 := Lib.hid (get_tree w4 tb S4 _ key hT)
  unfold ptr at Hget4
  have hln := Lib.hid (length_ins_le key value kv HT3.out.srt)
  have Hsrt := Lib.hid HT3.out.srt
  clear hT hS hc hC4 hS4 HK3 HT3 HC3 HS Hput
  go_wp2_with fail
  refine Hget4.out.mono ?_
  intro e w5 hp
  unfold GetPost at hp
  rw [get_ins] at hp
  obtain ⟨rfl, hc⟩ := hp
  have HK5 := Lib.hid (HK4.out.quiet hc)
  have HT5 := Lib.hid (HT4.out.chg hc (fun _ _ h => h))
  have HC5 := Lib.hid (HC4.out.trans hc (fun _ _ h => h))
  clear hc HK4 HT4 HC4 Hget4
  simp only [Option.isSome, valueOf]
  cases hg : get key kv with
  | some x =>
    have hx : gv = .string x := by rw [Hgv.out, hg]; rfl
    subst hx
    have Hput5 := Lib.hid (put_tree w5 tb S4 _ key x HT5.out (by have := hln.out; omega))
    unfold ptr at Hput5
    have Hg := Lib.hid hg
    clear hg
    simp only []
    go_wp2_with fail
    refine Hput5.out.mono ?_
    intro e w6 hp
    obtain ⟨rfl, S6, hT, hS, hc⟩ := put_bit hp (get_ins key value kv) (ins_back Hsrt.out Hg.out)
    have HK6 := Lib.hid (HK5.out.step hc hS)
    obtain ⟨hC6, hS6⟩ := new_step HC5.out HS4.out hc hS
    have HT6 := Lib.hid hT
    have HC6 := Lib.hid hC6
    have Hall6 := Lib.hid (all_calls w6 tb S6 kv hT (by omega))
    unfold ptr at Hall6
    clear hp hT hS hc hC6 hS6 HK5 HT5 HC5 HS4 Hput5
    go_wp2_with fail
    refine Hall6.out.mono ?_
    rintro e w7 ⟨v10, rfl, ho, hc⟩
    have HK7 := HK6.out.quiet hc
    have Hsame := Lib.hid (same_calls w7 v9 v10 kv kv (pairsIn_row HK7.1) (pairsIn_row ho) (by omega))
    have HT7 := Lib.hid (HT6.out.chg hc (fun _ _ h => h))
    have HC7 := Lib.hid (HC6.out.trans hc (fun _ _ h => h))
    clear ho hc HK7 HK6 HT6 HC6 Hall6
    go_wp2_with fail
    refine Hsame.out.mono ?_
    rintro e w8 ⟨rfl, hc⟩
    have HC8 := Lib.hid (HC7.out.trans hc (fun _ _ h => h))
    have Hsh := Lib.hid (short_calls w8 tb S6 kv (HT7.out.chg hc (fun _ _ h => h)) (by omega))
    unfold ptr at Hsh
    simp only [decide_true]
    clear hc HC7 HT7 Hsame
    go_wp2_with fail
    refine Hsh.out.mono ?_
    rintro e w' ⟨rfl, rfl⟩
    clear Hsh
    go_wp2
    go_ret
    exact ⟨rfl, HC8.out⟩
  | none =>
    have Hdel5 := Lib.hid (delete_tree w5 tb S4 _ key HT5.out (by have := hln.out; omega))
    unfold ptr at Hdel5
    have Hg := Lib.hid hg
    clear hg
    simp only []
    go_wp2_with fail
    refine Hdel5.out.mono ?_
    intro e w6 hp
    obtain ⟨rfl, S6, hT, hS, hc⟩ := del_bit hp (get_ins key value kv) (del_ins Hg.out)
    have HK6 := Lib.hid (HK5.out.step hc hS)
    obtain ⟨hC6, hS6⟩ := new_step HC5.out HS4.out hc hS
    have HT6 := Lib.hid hT
    have HC6 := Lib.hid hC6
    have Hall6 := Lib.hid (all_calls w6 tb S6 kv hT (by omega))
    unfold ptr at Hall6
    clear hp hT hS hc hC6 hS6 HK5 HT5 HC5 HS4 Hdel5
    go_wp2_with fail
    refine Hall6.out.mono ?_
    rintro e w7 ⟨v10, rfl, ho, hc⟩
    have HK7 := HK6.out.quiet hc
    have Hsame := Lib.hid (same_calls w7 v9 v10 kv kv (pairsIn_row HK7.1) (pairsIn_row ho) (by omega))
    have HT7 := Lib.hid (HT6.out.chg hc (fun _ _ h => h))
    have HC7 := Lib.hid (HC6.out.trans hc (fun _ _ h => h))
    clear ho hc HK7 HK6 HT6 HC6 Hall6
    go_wp2_with fail
    refine Hsame.out.mono ?_
    rintro e w8 ⟨rfl, hc⟩
    have HC8 := Lib.hid (HC7.out.trans hc (fun _ _ h => h))
    have Hsh := Lib.hid (short_calls w8 tb S6 kv (HT7.out.chg hc (fun _ _ h => h)) (by omega))
    unfold ptr at Hsh
    simp only [decide_true]
    clear hc HC7 HT7 Hsame
    go_wp2_with fail
    refine Hsh.out.mono ?_
    rintro e w' ⟨rfl, rfl⟩
    clear Hsh
    go_wp2
    go_ret
    exact ⟨rfl, HC8.out⟩

end Go.Proofs.Ytempbaflcbmcpaa
