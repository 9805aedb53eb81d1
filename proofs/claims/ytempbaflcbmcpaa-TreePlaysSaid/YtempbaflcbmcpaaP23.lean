/- sort.Search and (*row).place: where a key belongs in a row. -/
import Derived.Test.YtempbaflcbmcpaaN
namespace Go.Proofs.Ytempbaflcbmcpaa
open Go.RowKit

set_option maxHeartbeats 400000 in
theorem search36 (w : World) (n : Nat) (hn : n ≤ 1152921504606846976) (c1 c2 : Value) (p : Nat → Bool)
   (hp : ∀ (z : Int) (i m : Nat), z = i → i < n → Calls Try.prog 36 #[.int .i64 z, c1, c2] (w.drewN m) fun e w' => e = .returned (.bool (p i)) ∧ ∃ m', w.drewN m' = w') :
    Calls Try.prog 35 #[.int .i64 n, .func (.func 36) #[] #[c1, c2]] w (SearchEnd p n w) := by
  have Hp := Lib.hid hp; clear hp
  go_enter Try.func35, Try.ntmps35
  go_wp2
  go_loopw [5, 6] (fun i j wr => ∃ a b m : Nat, i = .int .i64 a ∧ j = .int .i64 b ∧ SearchAt p n a b ∧ wr = w.drewN m) (fun i j _ => ((intOf j) - (intOf i)).toNat)
  case atStart => exact ⟨0, n, 0, rfl, rfl, ⟨by omega, by omega, by omega, by omega⟩, rfl⟩
  case round =>
    obtain ⟨a, b, m, rfl, rfl, ⟨hab, hbn, ha, hb⟩, rfl⟩ := hrel
    have Ha := Lib.hid ha; clear ha
    have Hb := Lib.hid hb; clear hb
    by_cases hlt : a < b
    · go_wp2_with fail
      cases hv : p ((a + b) / 2)
      · have Hv := Lib.hid hv; clear hv
        refine (Hp.out _ ((a + b) / 2) _ (by omega) (by omega)).mono ?_
        rintro e w' ⟨rfl, m', rfl⟩
        rw [Hv.out]
        go_wp2
        go_roundw
        case rel => exact ⟨(a + b) / 2 + 1, b, m', by go_num, rfl, ⟨by omega, hbn, fun _ => Hv.out, Hb.out⟩, rfl⟩
        case measure => simp [intOf]; omega
      · have Hv := Lib.hid hv; clear hv
        refine (Hp.out _ ((a + b) / 2) _ (by omega) (by omega)).mono ?_
        rintro e w' ⟨rfl, m', rfl⟩
        rw [Hv.out]
        go_wp2
        go_roundw
        case rel => exact ⟨a, (a + b) / 2, m', rfl, by go_num, ⟨by omega, by omega, Ha.out, fun _ => Hv.out⟩, rfl⟩
        case measure => simp [intOf]; omega
    · go_wp2
      go_ret
      have hh : a = b := by omega
      exact ⟨a, m, ⟨Nat.le_refl _, by omega, Ha.out, hh ▸ Hb.out⟩, rfl, rfl⟩

set_option maxHeartbeats 400000 in
theorem placefn36 (w : World) (z : Int) (i rb rs ks ab : Nat) (roff n c : Nat) (key k : ByteArray) (hz : z = i)
   (h1 : w.cell? ⟨rs, 0, none⟩ = some (.pointer (some ⟨rb, roff, none⟩)))
   (h2 : w.cell? ⟨ks, 0, none⟩ = some (.string key))
   (h3 : w.cell? ⟨rb, roff, none⟩ = some (.slice (some ⟨ab, 0, none⟩) n c))
   (hi : i < n) (_hn : n ≤ 1000000)
   (h4 : w.cell? ⟨ab, i * 2, none⟩ = some (.string k)) :
    Calls Try.prog 36 #[.int .i64 z, .pointer (some ⟨rs, 0, none⟩), .pointer (some ⟨ks, 0, none⟩)] w fun e w' => e = .returned (.bool (! Op.bytesLess k.toList key.toList)) ∧ ∃ m, w.drewN m = w' := by
  subst hz
  go_enter Try.func36, Try.ntmps36
  go_wp2
  go_quiet (fail)
  go_wp2
  go_ret
  exact ⟨rfl, _, rfl⟩

set_option maxHeartbeats 400000 in
theorem place23 (w : World) (rb roff n : Nat) (v : Value) (xs : List Value) (key : ByteArray)
    (hr : w.cell? ⟨rb, roff, none⟩ = some v) (hown : w.ownsRow 0 65 2 v n xs) (hk : KeysIn xs n) (hn : n ≤ 1000000) :
    Calls Try.prog 23 #[.pointer (some ⟨rb, roff, none⟩), .string key] w (PlaceEnd xs n key w) := by
  have hrb := World.block_lt_of_cell? w _ hr
  have hrb' : rb < w.heap.size := hrb
  rcases hown.2 with ⟨rfl, rfl⟩ | ⟨g, cap, cur, rfl, hb, hg, hnc, hcm, hcs, htake⟩
  · clear hown hk
    go_enter Try.func23, Try.ntmps23
    go_wp2_with fail
    refine (search36 _ 0 (by omega) _ _ (fun i => ! Op.bytesLess (keyAt xs i) key.toList) (fun _ _ _ _ h => absurd h (by omega))).mono ?_
    rintro e w' ⟨k, m, hs, rfl, rfl⟩
    have Hs := Lib.hid hs; clear hs
    go_wp2
    go_ret
    exact ⟨k, Hs.out, rfl, below_two _ _ _ _⟩
  · have hcs := hown.cells (g := g) rfl
    have hgl := lt_of_heap hg
    have Hcell : Hid (∀ j u, xs[j]? = some u → w.cell? ⟨g, j, none⟩ = some u) := fun j u h => by have := hcs j u h; rwa [Addr.add_lit, Nat.zero_add] at this
    have Hk := Lib.hid hk
    clear hcs hk hown htake hg
    go_enter Try.func23, Try.ntmps23
    go_wp2_with fail
    refine (search36 _ n (by omega) _ _ (fun i => ! Op.bytesLess (keyAt xs i) key.toList) ?_).mono ?_
    · intro z i m hz hi
      obtain ⟨k, hk⟩ := Hk.out i hi
      have hka : keyAt xs i = k.toList := by simp [keyAt, hk]
      have hc4 := Hcell.out (i * 2) _ hk
      have hne : rb ≠ w.heap.size := by omega
      rw [hka]
      refine (placefn36 _ z i rb w.heap.size (w.heap.size + 1) g roff n cap key k hz ?_ ?_ ?_ hi hn ?_).mono ?_
      rotate_right
      · rintro e w' ⟨rfl, m', rfl⟩
        exact ⟨rfl, m + m', by simp [World.drewN, Nat.add_assoc]⟩
      all_goals (show ((w.alloc _).alloc _).cell? _ = _)
      · exact cell_alloc_lt _ (cell_alloc_same w _ 0 _ _ _ rfl)
      · exact cell_alloc_same _ _ 0 _ _ _ (by simp)
      · exact cell_alloc_lt _ (cell_alloc_lt _ hr)
      · exact cell_alloc_lt _ (cell_alloc_lt _ hc4)
    · rintro e w' ⟨k, m, hs, rfl, rfl⟩
      have Hs := Lib.hid hs; clear hs
      go_wp2
      go_ret
      exact ⟨k, Hs.out, rfl, below_two _ _ _ _⟩

end Go.Proofs.Ytempbaflcbmcpaa
