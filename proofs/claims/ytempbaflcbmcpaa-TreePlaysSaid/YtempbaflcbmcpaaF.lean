/- leaf, size, first, under. -/
import Derived.Test.YtempbaflcbmcpaaP34
namespace Go.Proofs.Ytempbaflcbmcpaa
open Go.RowKit

theorem leaf_yes (w : World) (b : Nat) (kp : Option Addr) (kc : Nat) (hc : w.cell? ⟨b, 1, none⟩ = some (.slice kp 0 kc)) :
    Calls Try.prog 21 #[.pointer (some ⟨b, 0, none⟩)] w fun e w' => e = .returned (.bool true) ∧ w = w' := by
  go_enter Try.func21, Try.ntmps21
  go_wp2
  go_ret
  exact ⟨rfl, rfl⟩

theorem leaf_no (w : World) (b : Nat) (kp : Option Addr) (kn kc : Nat) (hc : w.cell? ⟨b, 1, none⟩ = some (.slice kp kn kc)) (hn : 0 < kn) :
    Calls Try.prog 21 #[.pointer (some ⟨b, 0, none⟩)] w fun e w' => e = .returned (.bool false) ∧ w = w' := by
  have h : (((kn : Nat) : Int) == 0) = false := by simp; omega
  go_enter Try.func21, Try.ntmps21
  go_wp2
  go_ret
  exact ⟨rfl, rfl⟩

theorem size_calls (w : World) (b : Nat) (vp kp : Option Addr) (vn vc kn kc : Nat) (h0 : w.cell? ⟨b, 0, none⟩ = some (.slice vp vn vc)) (h1 : w.cell? ⟨b, 1, none⟩ = some (.slice kp kn kc)) (hv : vn ≤ 1000000) (hk : kn ≤ 1000000) :
    Calls Try.prog 38 #[.pointer (some ⟨b, 0, none⟩)] w fun e w' => e = .returned (.int .i64 ((vn + kn : Nat) : Int)) ∧ ∃ m, w.drewN m = w' := by
  have hs : IntKind.i64.wrap ((vn : Int) + kn) = (vn : Int) + kn := IntWalk.i64_in _ (by omega)
  go_enter Try.func38, Try.ntmps38
  go_wp2
  go_quiet (fail)
  go_wp2
  go_ret
  exact ⟨by simp, _, rfl⟩

theorem first_leaf (w : World) (b g n c : Nat) (kp : Option Addr) (kc : Nat) (k : ByteArray) (h0 : w.cell? ⟨b, 0, none⟩ = some (.slice (some ⟨g, 0, none⟩) n c)) (h1 : w.cell? ⟨b, 1, none⟩ = some (.slice kp 0 kc)) (hn : 0 < n)
    (hk : w.cell? ⟨g, 0, none⟩ = some (.string k)) :
    Calls Try.prog 29 #[.pointer (some ⟨b, 0, none⟩)] w fun e w' => e = .returned (.string k) ∧ w = w' := by
  have h : (((n : Nat) : Int) == 0) = false := by simp; omega
  go_enter Try.func29, Try.ntmps29
  go_wp2_with (go_at_call 21; refine (leaf_yes _ _ _ _ h1).mono ?_; rintro e w' ⟨rfl, rfl⟩)
  go_ret
  exact ⟨rfl, rfl⟩

theorem first_inner (w : World) (b g n c : Nat) (k : ByteArray) (h1 : w.cell? ⟨b, 1, none⟩ = some (.slice (some ⟨g, 0, none⟩) n c)) (hn : 0 < n)
    (hk : w.cell? ⟨g, 0, none⟩ = some (.string k)) :
    Calls Try.prog 29 #[.pointer (some ⟨b, 0, none⟩)] w fun e w' => e = .returned (.string k) ∧ w = w' := by
  go_enter Try.func29, Try.ntmps29
  go_wp2_with (go_at_call 21; refine (leaf_no _ _ _ _ _ h1 hn).mono ?_; rintro e w' ⟨rfl, rfl⟩)
  go_ret
  exact ⟨rfl, rfl⟩

def UnderEnd (xs : List Value) (n : Nat) (key : ByteArray) (w : World) (e : Ending) (w' : World) : Prop :=
  ∃ k u : Nat, SearchAt (fun i => ! Op.bytesLess (keyAt xs i) key.toList) n k k ∧ (k < n ∧ keyAt xs k = key.toList ∧ u = k ∨ ¬ (k < n ∧ keyAt xs k = key.toList) ∧ u = k - 1) ∧ e = .returned (.int .i64 (u : Nat)) ∧ Below w.heap.size w w'

set_option maxHeartbeats 400000 in
theorem under22 (w : World) (rb roff n g cap : Nat) (xs : List Value) (key : ByteArray)
    (hr : w.cell? ⟨rb, roff, none⟩ = some (.slice (some ⟨g, 0, none⟩) n cap)) (hown : w.ownsRow 0 54 2 (.slice (some ⟨g, 0, none⟩) n cap) n xs) (hk : KeysIn xs n) (hn : n ≤ 1000000) :
    Calls Try.prog 22 #[.pointer (some ⟨rb, roff, none⟩), .string key] w (UnderEnd xs n key w) := by
  have hcs := hown.cells (g := g) rfl
  have Hcell : Hid (∀ j u, xs[j]? = some u → w.cell? ⟨g, j, none⟩ = some u) := fun j u h => by have := hcs j u h; rwa [Addr.add_lit, Nat.zero_add] at this
  have Hk := Lib.hid hk
  have Hp := Lib.hid (place34 w rb roff n _ xs key hr hown hk hn)
  have hrl := World.block_lt_of_cell? w _ hr
  have hgl := (hown.lt g rfl).2
  clear hk hown hcs
  go_enter Try.func22, Try.ntmps22
  go_wp2_with fail
  refine Hp.out.mono ?_
  rintro e w' ⟨k, hs, rfl, hb⟩
  have hr' : w'.cell? ⟨rb, roff, none⟩ = some (.slice (some ⟨g, 0, none⟩) n cap) := (hb.cell hrl).trans hr
  have Hs := Lib.hid hs; clear hs
  have Hb := Lib.hid hb; clear hb hr
  have hkn : k ≤ n := Hs.out.2.1
  by_cases hlt : k < n
  · obtain ⟨key2, hk2⟩ := Hk.out k hlt
    have hc2 : w'.cell? ⟨g, k * 2, none⟩ = some (.string key2) := (Hb.out.cell hgl).trans (Hcell.out _ _ hk2)
    have hka : Hid (keyAt xs k = key2.toList) := by show keyAt xs k = key2.toList; simp [keyAt, hk2]
    clear hk2
    go_wp2
    all_goals go_ret
    · refine ⟨k, k, Hs.out, .inl ⟨hlt, ?_, rfl⟩, rfl, Hb.out⟩
      rw [hka.out]; simpa using ‹(key2.toList == key.toList) = true›
    · refine ⟨k, 0, Hs.out, .inr ⟨?_, by omega⟩, rfl, Hb.out⟩
      rintro ⟨-, h⟩
      rw [hka.out] at h
      have := ‹(key2.toList == key.toList) = false›
      simp [h] at this
    · refine ⟨k, k - 1, Hs.out, .inr ⟨?_, rfl⟩, by rw [show ((k - 1 : Nat) : Int) = (k : Int) - 1 by omega]; rfl, Hb.out⟩
      rintro ⟨-, h⟩
      rw [hka.out] at h
      have := ‹(key2.toList == key.toList) = false›
      simp [h] at this
  · go_wp2
    all_goals go_ret
    · exact ⟨k, 0, Hs.out, .inr ⟨fun h => hlt h.1, by omega⟩, rfl, Hb.out⟩
    · exact ⟨k, k - 1, Hs.out, .inr ⟨fun h => hlt h.1, rfl⟩, by rw [show ((k - 1 : Nat) : Int) = (k : Int) - 1 by omega]; rfl, Hb.out⟩

end Go.Proofs.Ytempbaflcbmcpaa
