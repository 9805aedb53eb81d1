/- (*node).drop at any tree. -/
import Derived.Test.YtempbaflcbmcpaaS
import Derived.Test.YtempbaflcbmcpaaX
namespace Go.Proofs.Ytempbaflcbmcpaa
open Go.RowKit

theorem drop_inner (d : Nat) (ih : DropCalls d) (w : World) (t : Inner (AT d)) (k : ByteArray) (hl : Lies w (d + 1) t) (hw : WF 2 (d + 1) t) (hs : Srt (AT.toL (d + 1) t)) (hnd : (AT.blocks (d + 1) t).Nodup) :
    Calls Try.prog 24 #[ptr t.b, .string k] w (DropEnd 2 (d + 1) t k w) := by
  rw [toL_inner] at hs
  obtain ⟨b, tv, ks⟩ := t
  obtain ⟨hb, ho, hkl⟩ := hl
  replace ho : w.ownsRow 0 54 2 tv ks.length (kidCells d ks) := ho
  obtain ⟨hw1, hw2, hw3, hw4⟩ := hw
  replace hw1 : 2 ≤ ks.length := hw1
  obtain ⟨g, c, hv, -, -, -⟩ := row_form ho (by omega)
  subst hv
  exact drop_innerN d ih w b g ks.length c ks k rfl hb ho (fun x hx => ⟨hkl x hx, hw4 x hx⟩) hw3 hw1 hw2 hs hnd

theorem drop_calls : ∀ d, DropCalls d
  | 0 => fun w lo t k hl hw hs hnd _ => drop_leaf w lo t k hl hw hs hnd
  | d + 1 => fun w lo t k hl hw hs hnd h => by
    have := h (by omega); subst this
    exact drop_inner d (drop_calls d) w t k hl hw hs hnd

end Go.Proofs.Ytempbaflcbmcpaa
