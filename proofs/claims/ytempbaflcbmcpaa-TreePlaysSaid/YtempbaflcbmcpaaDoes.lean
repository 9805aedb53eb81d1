/- An act by both: does. -/
import Derived.Test.YtempbaflcbmcpaaRefScan
import Derived.Test.YtempbaflcbmcpaaRefPut
import Derived.Test.YtempbaflcbmcpaaRefDel
import Derived.Test.YtempbaflcbmcpaaAwake
namespace Go.Proofs.Ytempbaflcbmcpaa
open Go.RowKit

/-- What an act makes of what is held. -/
def act (d : Int) (k v : ByteArray) (l : KV) : KV := if d = 1 then ins k v l else if d = 2 then del k l else l

structure Both (w : World) (tb : Nat) (S : List Nat) (kv : KV) (rb : Nat) (R : List Nat) (L : KV) : Prop where
  t : TreeAt w tb S kv
  r : RefIs w rb R L
  srt : Srt L
  sep : ∀ x ∈ S, x ∉ R

def DoesPost (tb : Nat) (S : List Nat) (kv : KV) (rb : Nat) (R : List Nat) (L : KV) (d : Int) (k v : ByteArray) (w : World) (e : Ending) (w' : World) : Prop :=
  ∃ b S' R', e = .returned (.bool b) ∧ (kv = L → b = true) ∧ Both w' tb S' (act d k v kv) rb R' (act d k v L) ∧ (∀ x ∈ S', x ∈ S ∨ w.heap.size ≤ x) ∧ (∀ x ∈ R', x ∈ R ∨ w.heap.size ≤ x) ∧ Chg (fun x => x ∈ S ∨ x ∈ R) w w'

/-- The tree turned, then the reference. -/
theorem both_step {w w1 w2 w3 : World} {tb rb : Nat} {S S' R R' : List Nat} {kv kv' L L' : KV} (h : Both w tb S kv rb R L) (h1 : Chg (fun _ => False) w w1) (hT : TreeAt w2 tb S' kv') (hS : ∀ x ∈ S', x ∈ S ∨ w1.heap.size ≤ x) (hc : Chg (· ∈ S) w1 w2)
    (hR : RefIs w3 rb R' L') (hRs : ∀ x ∈ R', x ∈ R ∨ w2.heap.size ≤ x) (hc2 : Chg (· ∈ R) w2 w3) (hsrt : Srt L') :
    Both w3 tb S' kv' rb R' L' ∧ (∀ x ∈ S', x ∈ S ∨ w.heap.size ≤ x) ∧ (∀ x ∈ R', x ∈ R ∨ w.heap.size ≤ x) ∧ Chg (fun x => x ∈ S ∨ x ∈ R) w w3 := by
  have hRl := h.r.lt
  have hTl := hT.lt
  have h1s := h1.size
  have hcs := hc.size
  have hSR : ∀ x ∈ S', x ∉ R := fun x hx hr => by
    rcases hS x hx with h2 | h2
    · exact h.sep x h2 hr
    · have := hRl x hr; omega
  refine ⟨⟨hT.chg hc2 hSR, hR, hsrt, fun x hx hr => ?_⟩, fun x hx => ?_, fun x hx => ?_, ?_⟩
  · rcases hRs x hr with h2 | h2
    · exact hSR x hx h2
    · have := hTl x hx; omega
  · rcases hS x hx with h2 | h2
    · exact .inl h2
    · exact .inr (by omega)
  · rcases hRs x hx with h2 | h2
    · exact .inl h2
    · exact .inr (by omega)
  · exact ((h1.mono (fun _ _ h => h.elim)).trans hc (fun x _ h => .inl h)).trans hc2 (fun x _ h => .inr h)

theorem ref_keep {w w1 w2 : World} {tb rb : Nat} {S R : List Nat} {kv L : KV} (h : Both w tb S kv rb R L) (h1 : Chg (fun _ => False) w w1) (hc : Chg (· ∈ S) w1 w2) : RefIs w2 rb R L :=
  (h.r.chg h1 (fun _ _ h => h)).chg hc (fun x hx hs => h.sep x hs hx)

set_option maxRecDepth 100000 in
set_option maxHeartbeats 4000000 in
theorem does_calls (w : World) (tb rb : Nat) (S R : List Nat) (kv L : KV) (d most : Int) (k v : ByteArray) (h : Both w tb S kv rb R L) (hkv : kv.length ≤ 5000000000000) (hL : L.length ≤ 5000000000000) :
    Calls Try.prog 14 #[ptr tb, ptr rb, .agg #[.int .i64 d, .string k, .string v, .int .i64 most]] w (DoesPost tb S kv rb R L d k v w) := by
  obtain ⟨w1, hw1⟩ : ∃ w1, w1 = w.alloc (.cells #[.int .i64 d, .string k, .string v, .int .i64 most] 39 (0, 0)) := ⟨_, rfl⟩
  have h1 : Chg (fun _ => False) w w1 := hw1 ▸ Chg.alloc _ w _
  have hT1 := h.t.chg h1 (fun _ _ h => h)
  have hbox : w1.heap[w.heap.size]? = some (.cells #[.int .i64 d, .string k, .string v, .int .i64 most] 39 (0, 0)) := hw1 ▸ heap_alloc_new w _
  have hSl := h.t.lt
  have hRl := h.r.lt
  have H := Lib.hid h
  have H1 := Lib.hid h1
  have HT1 := Lib.hid hT1
  have Hbox := Lib.hid hbox
  have HSl := Lib.hid hSl
  have HRl := Lib.hid hRl
  clear h h1 hT1 hbox hSl hRl
  by_cases hd1 : d = 1
  · subst hd1
    have Hput := Lib.hid (put_tree w1 tb S kv k v HT1.out (by omega))
    rw [hw1] at Hput
    have HW1 := Lib.hid hw1
    clear hw1
    unfold ptr at Hput
    unfold ptr
    go_enter Try.func14, Try.ntmps14
    go_wp2_with fail
    refine Hput.out.mono ?_
    rw [← HW1.out]
    rintro e w2 ⟨rfl, S', hT, hS, hc⟩
    have hb2 := hc.at Hbox.out (fun h => by have := HSl.out _ h; omega)
    have q1 : w2.cell? ⟨w.heap.size, 1, none⟩ = some (.string k) := cell_at hb2 1
    have q2 : w2.cell? ⟨w.heap.size, 2, none⟩ = some (.string v) := cell_at hb2 2
    have Href := Lib.hid (refPut_calls w2 rb R L k v (ref_keep H.out H1.out hc) H.out.srt hL)
    have HT := Lib.hid hT
    have HS := Lib.hid hS
    have HC := Lib.hid hc
    unfold ptr at Href
    obtain ⟨g1, hg1⟩ : ∃ g1, g1 = (get k kv).isSome := ⟨_, rfl⟩
    obtain ⟨g2, hg2⟩ : ∃ g2, g2 = (get k L).isSome := ⟨_, rfl⟩
    rw [← hg1]
    rw [← hg2] at Href
    have Hg : Hid (kv = L → g1 = g2) := fun e => by rw [hg1, hg2, e]
    clear hT hS hc hb2 Hput hg1 hg2
    go_wp2_with fail
    refine Href.out.mono ?_
    rintro e w3 ⟨rfl, R', hR, hRs, hc2⟩
    have Hf := Lib.hid (both_step H.out H1.out HT.out HS.out HC.out hR hRs hc2 (srt_ins k v L H.out.srt))
    clear hR hRs hc2 q1 q2 Href
    go_wp2
    go_ret
    obtain ⟨f1, f2, f3, f4⟩ := Hf.out
    exact ⟨_, S', R', rfl, fun e => by rw [Hg.out e]; simp, f1, f2, f3, f4⟩
  by_cases hd2 : d = 2
  · subst hd2
    have Hput := Lib.hid (delete_tree w1 tb S kv k HT1.out (by omega))
    rw [hw1] at Hput
    have HW1 := Lib.hid hw1
    clear hw1 hd1
    unfold ptr at Hput
    unfold ptr
    go_enter Try.func14, Try.ntmps14
    go_wp2_with fail
    refine Hput.out.mono ?_
    rw [← HW1.out]
    rintro e w2 ⟨rfl, S', hT, hS, hc⟩
    have hb2 := hc.at Hbox.out (fun h => by have := HSl.out _ h; omega)
    have q1 : w2.cell? ⟨w.heap.size, 1, none⟩ = some (.string k) := cell_at hb2 1
    have Href := Lib.hid (refDelete_calls w2 rb R L k (ref_keep H.out H1.out hc) H.out.srt hL)
    have HT := Lib.hid hT
    have HS := Lib.hid hS
    have HC := Lib.hid hc
    unfold ptr at Href
    obtain ⟨g1, hg1⟩ : ∃ g1, g1 = (get k kv).isSome := ⟨_, rfl⟩
    obtain ⟨g2, hg2⟩ : ∃ g2, g2 = (get k L).isSome := ⟨_, rfl⟩
    rw [← hg1]
    rw [← hg2] at Href
    have Hg : Hid (kv = L → g1 = g2) := fun e => by rw [hg1, hg2, e]
    clear hT hS hc hb2 Hput hg1 hg2
    go_wp2_with fail
    refine Href.out.mono ?_
    rintro e w3 ⟨rfl, R', hR, hRs, hc2⟩
    have Hf := Lib.hid (both_step H.out H1.out HT.out HS.out HC.out hR hRs hc2 (srt_del k L H.out.srt))
    clear hR hRs hc2 q1 Href
    go_wp2
    go_ret
    obtain ⟨f1, f2, f3, f4⟩ := Hf.out
    exact ⟨_, S', R', rfl, fun e => by rw [Hg.out e]; simp, f1, f2, f3, f4⟩
  have hact : ∀ l, act d k v l = l := fun l => by unfold act; rw [if_neg hd1, if_neg hd2]
  have Hact := Lib.hid hact
  -- what stays
  have hstay : ∀ w3, Chg (fun _ => False) w w3 → Both w3 tb S (act d k v kv) rb R (act d k v L) ∧ (∀ x ∈ S, x ∈ S ∨ w.heap.size ≤ x) ∧ (∀ x ∈ R, x ∈ R ∨ w.heap.size ≤ x) ∧ Chg (fun x => x ∈ S ∨ x ∈ R) w w3 := fun w3 h3 =>
    ⟨by rw [hact, hact]; exact ⟨H.out.t.chg h3 (fun _ _ h => h), H.out.r.chg h3 (fun _ _ h => h), H.out.srt, H.out.sep⟩, fun x hx => .inl hx, fun x hx => .inl hx, h3.mono (fun _ _ h => h.elim)⟩
  have Hstay := Lib.hid hstay
  clear hact hstay
  by_cases hd3 : d = 3
  · subst hd3
    have Hput := Lib.hid (get_tree w1 tb S kv k HT1.out)
    rw [hw1] at Hput
    have HW1 := Lib.hid hw1
    clear hw1 hd1 hd2
    unfold ptr at Hput
    unfold ptr
    go_enter Try.func14, Try.ntmps14
    go_wp2_with fail
    refine Hput.out.mono ?_
    rw [← HW1.out]
    rintro e w2 ⟨rfl, hc⟩
    have q1 : w2.cell? ⟨w.heap.size, 1, none⟩ = some (.string k) := cell_at (hc.at Hbox.out (fun h => h)) 1
    have HC := Lib.hid (H1.out.trans hc (fun _ _ h => h))
    have Href := Lib.hid (refGet_calls w2 rb R L k (H.out.r.chg HC.out (fun _ _ h => h)) H.out.srt hL)
    unfold ptr at Href
    unfold GetPost at Href
    clear hc Hput
    cases hg1 : get k kv with
    | none =>
      cases hg2 : get k L with
      | none =>
        rw [hg2] at Href
        simp only [valueOf, Option.isSome] at Href ⊢
        clear hg1 hg2
        go_wp2_with fail
        refine Href.out.mono ?_
        rintro e w3 ⟨rfl, hc2⟩
        have Hf := Lib.hid (Hstay.out w3 (HC.out.trans hc2 (fun _ _ h => h)))
        clear hc2 Href q1
        go_wp2
        go_ret
        obtain ⟨f1, f2, f3, f4⟩ := Hf.out
        exact ⟨_, S, R, rfl, fun _ => rfl, f1, f2, f3, f4⟩
      | some y =>
        have Hne : Hid (kv ≠ L) := fun e => by rw [e, hg2] at hg1; cases hg1
        rw [hg2] at Href
        simp only [valueOf, Option.isSome] at Href ⊢
        clear hg1 hg2
        go_wp2_with fail
        refine Href.out.mono ?_
        rintro e w3 ⟨rfl, hc2⟩
        have Hf := Lib.hid (Hstay.out w3 (HC.out.trans hc2 (fun _ _ h => h)))
        clear hc2 Href q1
        go_wp2
        all_goals go_ret
        all_goals
          obtain ⟨f1, f2, f3, f4⟩ := Hf.out
          exact ⟨_, S, R, rfl, fun e => absurd e Hne.out, f1, f2, f3, f4⟩
    | some x =>
      cases hg2 : get k L with
      | none =>
        have Hne : Hid (kv ≠ L) := fun e => by rw [e, hg2] at hg1; cases hg1
        rw [hg2] at Href
        simp only [valueOf, Option.isSome] at Href ⊢
        clear hg1 hg2
        go_wp2_with fail
        refine Href.out.mono ?_
        rintro e w3 ⟨rfl, hc2⟩
        have Hf := Lib.hid (Hstay.out w3 (HC.out.trans hc2 (fun _ _ h => h)))
        clear hc2 Href q1
        go_wp2
        all_goals go_ret
        all_goals
          obtain ⟨f1, f2, f3, f4⟩ := Hf.out
          exact ⟨_, S, R, rfl, fun e => absurd e Hne.out, f1, f2, f3, f4⟩
      | some y =>
        have Hxy : Hid (kv = L → x = y) := fun e => by rw [e, hg2] at hg1; cases hg1; rfl
        rw [hg2] at Href
        simp only [valueOf, Option.isSome] at Href ⊢
        clear hg1 hg2
        cases hb : (x.toList == y.toList)
        · have Hne : Hid (kv ≠ L) := fun e => by rw [Hxy.out e] at hb; simp at hb
          go_wp2_with fail
          refine Href.out.mono ?_
          rintro e w3 ⟨rfl, hc2⟩
          have Hf := Lib.hid (Hstay.out w3 (HC.out.trans hc2 (fun _ _ h => h)))
          clear hc2 Href q1
          go_wp2
          go_ret
          obtain ⟨f1, f2, f3, f4⟩ := Hf.out
          exact ⟨_, S, R, rfl, fun e => absurd e Hne.out, f1, f2, f3, f4⟩
        · go_wp2_with fail
          refine Href.out.mono ?_
          rintro e w3 ⟨rfl, hc2⟩
          have Hf := Lib.hid (Hstay.out w3 (HC.out.trans hc2 (fun _ _ h => h)))
          clear hc2 Href q1
          go_wp2
          go_ret
          obtain ⟨f1, f2, f3, f4⟩ := Hf.out
          exact ⟨_, S, R, rfl, fun _ => rfl, f1, f2, f3, f4⟩
  by_cases hd4 : d = 4
  · subst hd4
    have Hput := Lib.hid (scan_calls w1 tb S kv k v most HT1.out hkv)
    rw [hw1] at Hput
    have HW1 := Lib.hid hw1
    clear hw1 hd1 hd2 hd3
    unfold ptr at Hput
    unfold ptr
    go_enter Try.func14, Try.ntmps14
    go_wp2_with fail
    refine Hput.out.mono ?_
    rw [← HW1.out]
    rintro e w2 ⟨v5, rfl, ho, hc⟩
    have hb2 := hc.at Hbox.out (fun h => h)
    have q1 : w2.cell? ⟨w.heap.size, 1, none⟩ = some (.string k) := cell_at hb2 1
    have q2 : w2.cell? ⟨w.heap.size, 2, none⟩ = some (.string v) := cell_at hb2 2
    have q3 : w2.cell? ⟨w.heap.size, 3, none⟩ = some (.int .i64 most) := cell_at hb2 3
    have HC := Lib.hid (H1.out.trans hc (fun _ _ h => h))
    have Ho := Lib.hid ho
    have Href := Lib.hid (refScan_calls w2 rb R L k v most (H.out.r.chg HC.out (fun _ _ h => h)) hL)
    unfold ptr at Href
    clear hc ho hb2 Hput
    go_wp2_with fail
    refine Href.out.mono ?_
    rintro e w3 ⟨v6, rfl, ho6, hc6⟩
    have HC3 := Lib.hid (HC.out.trans hc6 (fun _ _ h => h))
    have hlen5 : (scan most v [] (fromOf k kv)).1.length ≤ 5000000000000 := by
      have h1 := scan_len most v (fromOf k kv) []
      have h2 := length_fromOf k kv
      simp only [List.length_nil, Nat.zero_add] at h1
      omega
    have Hsame := Lib.hid (same_calls w3 v5 v6 _ _ (pairsIn_row (ownsRow_chg hc6 Ho.out (fun _ _ h => h))) (pairsIn_row ho6) hlen5)
    have Hg : Hid (kv = L → decide ((scan most v [] (fromOf k kv)).1 = refScan most k v [] L) = true) := fun e => by
      rw [refScan_eq H.out.srt, e]; simp
    obtain ⟨g1, hg1⟩ : ∃ g1, g1 = decide ((scan most v [] (fromOf k kv)).1 = refScan most k v [] L) := ⟨_, rfl⟩
    rw [← hg1] at Hsame Hg
    clear ho6 hc6 Href q1 q2 q3 hg1 Ho hlen5
    go_wp2_with fail
    refine Hsame.out.mono ?_
    rintro e w4 ⟨rfl, hc4⟩
    have Hf := Lib.hid (Hstay.out w4 (HC3.out.trans hc4 (fun _ _ h => h)))
    clear hc4 Hsame
    go_wp2
    go_ret
    obtain ⟨f1, f2, f3, f4⟩ := Hf.out
    exact ⟨_, S, R, rfl, Hg.out, f1, f2, f3, f4⟩
  · have Hf := Lib.hid (Hstay.out w1 H1.out)
    rw [hw1] at Hf
    have e1 : (d == 1) = false := by simpa using hd1
    have e2 : (d == 2) = false := by simpa using hd2
    have e3 : (d == 3) = false := by simpa using hd3
    have e4 : (d == 4) = false := by simpa using hd4
    clear hw1 hd1 hd2 hd3 hd4
    unfold ptr
    go_enter Try.func14, Try.ntmps14
    go_wp2
    go_ret
    obtain ⟨f1, f2, f3, f4⟩ := Hf.out
    exact ⟨_, S, R, rfl, fun _ => rfl, f1, f2, f3, f4⟩

end Go.Proofs.Ytempbaflcbmcpaa
