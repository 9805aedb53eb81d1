/- (*Tree).Depth, (*Tree).Get. -/
import Derived.Test.YtempbaflcbmcpaaE
import Derived.Deep.LoopGhost
namespace Go.Proofs.Ytempbaflcbmcpaa
open Go.RowKit

set_option maxRecDepth 100000 in
set_option maxHeartbeats 1000000 in
theorem depthN (w : World) (tb d : Nat) (t : AT d) (kv : KV) (h : TreeIs w tb d t kv) (hd : d ≤ 1000000) :
    Calls Try.prog 30 #[ptr tb] w fun e w' => e = .returned (.int .i64 ((d : Nat) + 1)) ∧ w' = w := by
  have h0c : w.cell? ⟨tb, 0, none⟩ = some (ptr (AT.b d t)) := cell_at h.hb 0
  have Hl := Lib.hid h.lies
  have Hw := Lib.hid (WF.mono (lo' := min 1 d) (by cases d <;> simp [lo0]) _ _ h.wf)
  clear h
  unfold ptr at h0c
  unfold ptr
  go_enter Try.func30, Try.ntmps30
  go_wp2_with fail
  go_loopg [3, 4] d (fun k c p wr => ∃ (t' : AT k) (z : Int) (b : Nat), k ≤ d ∧ z = (d : Int) - k + 1 ∧ AT.b k t' = b ∧ c = .int .i64 z ∧ p = .pointer (some ⟨b, 0, none⟩) ∧ Lies w k t' ∧ WF (min 1 k) k t' ∧ wr = w)
  case atStart => exact ⟨t, 1, _, Nat.le_refl _, by omega, rfl, rfl, rfl, Hl.out, Hw.out, rfl⟩
  case round =>
    obtain ⟨t', z, b0, hkd, hz, hb0, rfl, rfl, hl, hw, rfl⟩ := hrel
    cases gk with
    | zero =>
      obtain ⟨b, tv, kv'⟩ := (t' : Leaf)
      replace hb0 : b = b0 := hb0
      subst hb0
      have h1b : wr.cell? ⟨b, 1, none⟩ = some (.slice none 0 0) := cell_at hl.1 1
      clear hl hw
      go_wp2_with (go_at_call 21; refine (leaf_yes _ _ _ _ h1b).mono ?_; rintro e w' ⟨rfl, rfl⟩)
      go_ret
      exact ⟨rfl, rfl⟩
    | succ k =>
      obtain ⟨b, tv, ks⟩ := (t' : Inner (AT k))
      replace hb0 : b = b0 := hb0
      subst hb0
      obtain ⟨hbl0, ho, hkl⟩ := hl
      obtain ⟨w1, -, -, w4⟩ := hw
      replace ho : wr.ownsRow 0 54 2 tv ks.length (kidCells k ks) := ho
      replace w1 : 1 ≤ ks.length := by have : min 1 (k + 1) ≤ ks.length := w1; omega
      obtain ⟨g, c, hv, -, -, hcell⟩ := row_form ho (by omega)
      subst hv
      have h1b : wr.cell? ⟨b, 1, none⟩ = some (.slice (some ⟨g, 0, none⟩) ks.length c) := cell_at hbl0 1
      obtain ⟨x, r, rfl⟩ : ∃ x r, ks = x :: r := by
        cases ks with
        | nil => exact absurd w1 (by simp)
        | cons x r => exact ⟨x, r, rfl⟩
      have hkc : wr.cell? ⟨g, 1, none⟩ = some (.pointer (some ⟨AT.b k x.2, 0, none⟩)) := hcell 1 _ rfl
      have Hx := Lib.hid (hkl x (by simp))
      have Hwx := Lib.hid (w4 x (by simp))
      obtain ⟨q, hq⟩ : ∃ q, (x :: r).length = q := ⟨_, rfl⟩
      rw [hq] at h1b w1
      have hwr : IntKind.i64.wrap (z + 1) = z + 1 := IntWalk.i64_in _ (by omega)
      have Hz := Lib.hid hz
      clear hz
      clear hcell hbl0 ho hkl w4 hq
      go_wp2_with (go_at_call 21; refine (leaf_no _ _ _ _ _ h1b (by omega)).mono ?_; rintro e w' ⟨rfl, rfl⟩)
      go_roundg k
      case measure => omega
      case rel => exact ⟨x.2, z + 1, _, by omega, by have := Hz.out; omega, rfl, rfl, rfl, Hx.out, WF.mono (by omega) _ _ Hwx.out, rfl⟩

end Go.Proofs.Ytempbaflcbmcpaa
