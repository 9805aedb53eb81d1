/- (*Tree).Get. -/
import Derived.Test.YtempbaflcbmcpaaO
namespace Go.Proofs.Ytempbaflcbmcpaa
open Go.RowKit

structure Down (d : Nat) (kid : AT d) (key : ByteArray) (kv : KV) (w w1 : World) : Prop where
  lies : Lies w1 d kid
  wf : WF 2 d kid
  srt : Srt (AT.toL d kid)
  get : get key (AT.toL d kid) = get key kv
  chg : Chg (fun _ => False) w w1

theorem get_down {w wr w1 : World} {d b g n c k0 u : Nat} {ks : List (ByteArray × AT d)} {key : ByteArray} {kv : KV} (hkn : ks.length = n) (hn : 0 < n)
    (hl : Lies wr (d + 1) (⟨b, .slice (some ⟨g, 0, none⟩) n c, ks⟩ : Inner (AT d))) (hw : WF 1 (d + 1) (⟨b, .slice (some ⟨g, 0, none⟩) n c, ks⟩ : Inner (AT d)))
    (hs : Srt (segs (segsOf d ks))) (hget : get key (segs (segsOf d ks)) = get key kv) (hc : Chg (fun _ => False) w wr)
    (hse : SearchAt (fun i => ! Op.bytesLess (keyAt (kidCells d ks) i) key.toList) n k0 k0) (hu : k0 < n ∧ keyAt (kidCells d ks) k0 = key.toList ∧ u = k0 ∨ ¬ (k0 < n ∧ keyAt (kidCells d ks) k0 = key.toList) ∧ u = k0 - 1) (hb : Below wr.heap.size wr w1) :
    ∃ kid : AT d, u < n ∧ w1.cell? ⟨b, 1, none⟩ = some (.slice (some ⟨g, 0, none⟩) n c) ∧ w1.cell? ⟨g, u * 2 + 1, none⟩ = some (.pointer (some ⟨AT.b d kid, 0, none⟩)) ∧ Hid (Down d kid key kv w w1) := by
  subst hkn
  have hK : Keyed (segsOf d ks) := hw.2.2.1
  obtain ⟨h1, h2, h3, h4⟩ := under_pos hK hs hn key k0 u hse hu
  have hl1 := hl.chg (below_chg hb) (d + 1) _ (fun _ _ h => h)
  obtain ⟨g0, cap0, hf0, -, -, hcell⟩ := row_form hl1.2.1 hn
  cases hf0
  have hm : ks[u] ∈ ks := List.getElem_mem h1
  refine ⟨ks[u].2, h1, cell_at hl1.1 1, ?_, ⟨hl1.2.2 _ hm, hw.2.2.2 _ hm, ?_, ?_, hc.trans (below_chg hb) (fun _ _ h => h)⟩⟩
  · exact hcell _ _ (kidCells_val d ks u h1)
  · rw [h2, segsOf_append, segsOf_cons, segs_append, segs_cons] at hs
    unfold Srt at hs ⊢
    rw [List.pairwise_append, List.pairwise_append] at hs
    exact hs.2.1.1
  · have e : get key (segs (segsOf d ks)) = get key (segs (segsOf d (ks.take u ++ ks[u] :: ks.drop (u + 1)))) := congrArg (fun l => get key (segs (segsOf d l))) h2
    rw [← hget, e, segsOf_append, segsOf_cons, segs_append, segs_cons, get_mid key _ _ _ h3 h4]

def valueOf : Option ByteArray → Value
  | none => .string ⟨#[]⟩
  | some v => .string v

def GetPost (kv : KV) (k : ByteArray) (w : World) (e : Ending) (w' : World) : Prop :=
  e = .returned (.tuple #[valueOf (get k kv), .bool (get k kv).isSome]) ∧ Chg (fun _ => False) w w'

set_option maxRecDepth 100000 in
set_option maxHeartbeats 2000000 in
theorem getN (w : World) (tb d : Nat) (t : AT d) (kv : KV) (k : ByteArray) (h : TreeIs w tb d t kv) :
    Calls Try.prog 10 #[ptr tb, .string k] w (GetPost kv k w) := by
  have h0c : w.cell? ⟨tb, 0, none⟩ = some (ptr (AT.b d t)) := cell_at h.hb 0
  have Hl := Lib.hid h.lies
  have Hw := Lib.hid (WF.mono (lo' := min 1 d) (by cases d <;> simp [lo0]) _ _ h.wf)
  have Hs : Hid (Srt (AT.toL d t)) := by have := h.srt; rw [← h.toL] at this; exact this
  have Ht := Lib.hid h.toL
  clear h
  unfold ptr at h0c
  unfold ptr
  go_enter Try.func10, Try.ntmps10
  go_wp2_with fail
  go_loopg [6] d (fun j p wr => ∃ (t' : AT j) (b : Nat), AT.b j t' = b ∧ p = .pointer (some ⟨b, 0, none⟩) ∧ Lies wr j t' ∧ WF (min 1 j) j t' ∧ Srt (AT.toL j t') ∧ get k (AT.toL j t') = get k kv ∧ Chg (fun _ => False) w wr)
  case atStart => exact ⟨t, _, rfl, rfl, Hl.out, Hw.out, Hs.out, by rw [Ht.out], Chg.refl _ _⟩
  case round =>
    obtain ⟨t', b0, hb0, rfl, hl, hw, hs, hget, hc⟩ := hrel
    clear h0c Hl Hw Hs Ht
    cases gk with
    | zero =>
      obtain ⟨b, tv, kv'⟩ := (t' : Leaf)
      replace hb0 : b = b0 := hb0
      subst hb0
      replace hs : Srt kv' := hs
      replace hget : get k kv' = get k kv := hget
      obtain ⟨hb, ho⟩ := hl
      replace ho : wr.ownsRow 0 65 2 tv kv'.length (leafCells kv') := ho
      have h4 : kv'.length ≤ 4 := hw.2
      obtain ⟨p, c, hv⟩ := slice_form ho
      subst hv
      obtain ⟨n, hkn⟩ : ∃ n, kv'.length = n := ⟨_, rfl⟩
      rw [hkn] at ho h4 hb
      have h1b : wr.cell? ⟨b, 1, none⟩ = some (.slice none 0 0) := cell_at hb 1
      have h0b : wr.cell? ⟨b, 0, none⟩ = some (.slice p n c) := cell_at hb 0
      have Hp := Lib.hid (place23 wr b 0 n _ (leafCells kv') k h0b ho (fun i h => ⟨_, leafCells_key kv' i (by omega)⟩) (by omega))
      have Hb := Lib.hid hb
      have Ho := Lib.hid ho
      have Hs := Lib.hid hs
      have Hkn := Lib.hid hkn
      have Hget := Lib.hid hget
      have Hc := Lib.hid hc
      clear hb ho hs hkn hget hc hw
      go_wp2_with (go_at_call 21; refine (leaf_yes _ _ _ _ h1b).mono ?_; rintro e w' ⟨rfl, rfl⟩)
      refine Hp.out.mono ?_
      rintro e w1 ⟨i, hse, rfl, hb1⟩
      have hpos := leaf_pos Hs.out (i := i) (k := k) (by rw [Hkn.out]; exact hse)
      have h0b1 : w1.cell? ⟨b, 0, none⟩ = some (.slice p n c) := cell_at (Below.at hb1 Hb.out) 0
      have how1 := ownsRow_below hb1 Ho.out
      have hil : i ≤ n := by have := hpos.1; rw [Hkn.out] at this; exact this
      have hc1 := Hc.out.trans (below_chg hb1) (fun _ _ h => h)
      have Hpos := Lib.hid hpos
      have How1 := Lib.hid how1
      have Hc1 := Lib.hid hc1
      clear hpos hb1 how1 hse h1b h0b hc1 Hp
      by_cases hlt : i < n
      · have hne : ((i : Int) == (n : Int)) = false := by simp; omega
        obtain ⟨g, cap, hf, hnc, hcm, hcell⟩ := row_form How1.out (by omega)
        cases hf
        have hk2 : w1.cell? ⟨g, i * 2, none⟩ = some (.string (kv'[i]'(Hkn.out ▸ hlt)).1) := hcell _ _ (leafCells_key kv' i (Hkn.out ▸ hlt))
        have hk3 : w1.cell? ⟨g, i * 2 + 1, none⟩ = some (.string (kv'[i]'(Hkn.out ▸ hlt)).2) := hcell _ _ (leafCells_val kv' i (Hkn.out ▸ hlt))
        obtain ⟨kk, hkk⟩ : ∃ kk, kk = (kv'[i]'(Hkn.out ▸ hlt)).1 := ⟨_, rfl⟩
        obtain ⟨vv, hvv⟩ : ∃ vv, vv = (kv'[i]'(Hkn.out ▸ hlt)).2 := ⟨_, rfl⟩
        rw [← hkk] at hk2
        rw [← hvv] at hk3
        have Hkk := Lib.hid hkk
        have Hvv := Lib.hid hvv
        clear hcell hkk hvv
        cases heq : (kk.toList == k.toList)
        · have Hf : Hid (get k kv = none) := by
            rw [← Hget.out]
            refine Hpos.out.get_not Hs.out (fun h e => ?_)
            rw [Hkk.out, e] at heq; simp at heq
          go_wp2
          go_ret2
          exact ⟨by rw [Hf.out]; rfl, Hc1.out⟩
        · have Hf : Hid (get k kv = some vv) := by
            rw [← Hget.out, Hvv.out]
            exact Hpos.out.get_found Hs.out (Hkn.out ▸ hlt) (by rw [← Hkk.out]; exact toList_inj (by simpa using heq))
          go_wp2
          go_ret2
          exact ⟨by rw [Hf.out]; rfl, Hc1.out⟩
      · have hne : ((i : Int) == (n : Int)) = true := by simp; omega
        have Hf : Hid (get k kv = none) := by
          rw [← Hget.out]
          exact Hpos.out.get_not Hs.out (fun h => absurd (Hkn.out ▸ h) hlt)
        go_wp2
        go_ret2
        exact ⟨by rw [Hf.out]; rfl, Hc1.out⟩
    | succ j =>
      rw [Nat.min_eq_left (by omega)] at hw
      obtain ⟨b, tv, ks⟩ := (t' : Inner (AT j))
      have e := toL_inner j (⟨b, tv, ks⟩ : Inner (AT j))
      replace hs : Srt (segs (segsOf j ks)) := e ▸ hs
      replace hget : get k (segs (segsOf j ks)) = get k kv := e ▸ hget
      clear e
      replace hb0 : b = b0 := hb0
      subst hb0
      have hk1 : 1 ≤ ks.length := hw.1
      have hk4 : ks.length ≤ 4 := hw.2.1
      have ho : wr.ownsRow 0 54 2 tv ks.length (kidCells j ks) := hl.2.1
      obtain ⟨g, c, hv, -, -, hcell⟩ := row_form ho (by omega)
      subst hv
      obtain ⟨n, hkn⟩ : ∃ n, ks.length = n := ⟨_, rfl⟩
      rw [hkn] at ho hl hw hk1 hk4
      have h1b : wr.cell? ⟨b, 1, none⟩ = some (.slice (some ⟨g, 0, none⟩) n c) := cell_at hl.1 1
      have hd := Chg.drew (fun _ => False) wr
      have Hl := Lib.hid (hl.chg hd (j + 1) _ (fun _ _ h => h))
      have Hu := Lib.hid (under22 wr.drew b 1 n g c (kidCells j ks) k h1b (ownsRow_chg hd ho (fun _ _ h => h)) (fun i h => ⟨_, kidCells_key j ks i (by omega)⟩) (by omega))
      have Hw := Lib.hid hw
      have Hs := Lib.hid hs
      have Hkn := Lib.hid hkn
      have Hget := Lib.hid hget
      have Hc := Lib.hid (hc.trans hd (fun _ _ h => h))
      clear hl hw hs hkn hget hc ho hcell hd
      go_wp2_with (go_at_call 21; refine (leaf_no _ _ _ _ _ h1b (by omega)).mono ?_; rintro e w' ⟨rfl, rfl⟩)
      go_region_law (go_simp; go_at_call 22; refine Hu.out.mono ?_; rintro e w1 ⟨k0, u, hse, hu, rfl, hb1⟩; obtain ⟨kid, hun, hc1, hc2, Hd⟩ := get_down Hkn.out (by omega) Hl.out Hw.out Hs.out Hget.out Hc.out hse hu hb1; clear hse hu hb1)
      all_goals
        go_wp2
        go_roundg j
        case measure => omega
        case rel => exact ⟨kid, _, rfl, rfl, Hd.out.lies, WF.mono (by omega) _ _ Hd.out.wf, Hd.out.srt, Hd.out.get, Hd.out.chg⟩

end Go.Proofs.Ytempbaflcbmcpaa
