/- (*Tree).Scan, (*Tree).All. -/
import Derived.Test.YtempbaflcbmcpaaEachIn
namespace Go.Proofs.Ytempbaflcbmcpaa
open Go.RowKit

theorem ownsRow_le {w : World} {base base' size n : Nat} {e : TypeId} {v : Value} {xs : List Value} (h : w.ownsRow base e size v n xs) (hb : base' ≤ base) : w.ownsRow base' e size v n xs := by
  refine ⟨h.1, ?_⟩
  rcases h.2 with h0 | ⟨g, cap, cur, rfl, hg, r⟩
  · exact .inl h0
  · exact .inr ⟨g, cap, cur, rfl, Nat.le_trans hb hg, r⟩

/-- A slice of pairs that a call has made: its row lies behind 'B'. -/
def ScanPost (l : KV) (w : World) (e : Ending) (w' : World) : Prop :=
  ∃ v, e = .returned v ∧ w'.ownsRow w.heap.size 47 2 v l.length (leafCells l) ∧ Chg (fun _ => False) w w'

set_option maxRecDepth 100000 in
set_option maxHeartbeats 2000000 in
theorem scanN (w : World) (tb d : Nat) (t : AT d) (kv : KV) (fr to : ByteArray) (most : Int) (h : TreeIs w tb d t kv) (hlen : kv.length ≤ 5000000000000) :
    Calls Try.prog 20 #[ptr tb, .string fr, .string to, .int .i64 most] w (ScanPost (scan most to [] (fromOf fr kv)).1 w) := by
  have h0c : w.cell? ⟨tb, 0, none⟩ = some (ptr (AT.b d t)) := cell_at h.hb 0
  have htl := lt_of_heap h.hb
  have htl2 : tb < w.heap.size + 1 := by omega
  have htl3 : tb < w.heap.size + 1 + 1 := by omega
  obtain ⟨W, hW⟩ : ∃ W, W = ((w.alloc (.cells #[.string to] 9 (0, 0))).alloc (.cells #[.int .i64 most] 3 (0, 0))).alloc (.cells #[.slice none 0 0] 22 (0, 0)) := ⟨_, rfl⟩
  have hs : W.heap.size = w.heap.size + 3 := by rw [hW]; simp
  have hc : Chg (fun _ => False) w W := by
    rw [hW]
    exact ((Chg.alloc _ w _).trans (Chg.alloc (fun _ => False) _ _) (fun _ _ h => h)).trans (Chg.alloc (fun _ => False) _ _) (fun _ _ h => h)
  have hO : Out (w.heap.size + 3) (w.heap.size + 2) (w.heap.size + 1) w.heap.size most to [] W := by
    refine ⟨⟨.slice none 0 0, ?_, World.ownsRow_nil _ _ _ _⟩, ?_, ?_, ⟨by omega, by omega, by omega, by omega⟩, ⟨by omega, by omega⟩⟩
    · have := heap_alloc_new ((w.alloc (.cells #[.string to] 9 (0, 0))).alloc (.cells #[.int .i64 most] 3 (0, 0))) (.cells #[.slice none 0 0] 22 (0, 0))
      rw [← hW] at this
      simp only [World.size_alloc] at this
      exact this
    · rw [hW]
      refine cell_alloc_lt _ ?_
      exact cell_alloc_same _ _ 0 _ _ _ (by simp)
    · rw [hW]
      refine cell_alloc_lt _ (cell_alloc_lt _ ?_)
      exact cell_alloc_same _ _ 0 _ _ _ rfl
  have He := Lib.hid (each_calls d (w.heap.size + 3) (w.heap.size + 2) (w.heap.size + 1) w.heap.size most to fr [] W t (h.lies.chg hc d t (fun _ _ h => h)) (WF.mono (by cases d <;> simp [lo0]) _ _ h.wf) (by rw [h.toL]; exact h.srt)
    (fun x hx => by have := Lies.lt d t h.lies x hx; omega) hO (by rw [h.toL]; simpa using hlen))
  rw [h.toL] at He
  have Hc := Lib.hid hc
  have HW := Lib.hid hW
  clear h hO hc hs
  subst hW
  unfold ptr at h0c He
  unfold ptr
  go_enter Try.func20, Try.ntmps20
  go_wp2_with fail
  refine He.out.mono ?_
  rintro e w' ⟨rfl, hO', hc'⟩
  obtain ⟨v, hv1, hv2⟩ := hO'.v
  obtain ⟨p, c, hv⟩ := slice_formB hv2
  subst hv
  obtain ⟨L, hL⟩ : ∃ L, L = (scan most to [] (fromOf fr kv)).1 := ⟨_, rfl⟩
  rw [← hL] at hv1 hv2
  rw [← hL]
  have hvc : w'.cell? ⟨w.heap.size + 1 + 1, 0, none⟩ = some (.slice p L.length c) := cell_at hv1 0
  have Hv := Lib.hid (ownsRow_le hv2 (Nat.le_add_right _ 3))
  have Hcc := Lib.hid ((Hc.out.trans (T := fun x => x = w.heap.size + 2 ∨ w.heap.size + 3 ≤ x) hc' (fun x hx h => by omega)))
  have HL := Lib.hid hL
  clear hO' hc' hv1 hv2 h0c He Hc hL
  go_wp2
  go_ret
  obtain rfl := HL.out
  exact ⟨_, rfl, Hv.out, Hcc.out⟩

theorem scan_calls (w : World) (tb : Nat) (S : List Nat) (kv : KV) (fr to : ByteArray) (most : Int) (h : TreeAt w tb S kv) (hlen : kv.length ≤ 5000000000000) :
    Calls Try.prog 20 #[ptr tb, .string fr, .string to, .int .i64 most] w (ScanPost (scan most to [] (fromOf fr kv)).1 w) := by
  obtain ⟨d, t, h, -⟩ := h
  exact scanN w tb d t kv fr to most h hlen

theorem empty_toList : (⟨#[]⟩ : ByteArray).toList = [] := by first | rfl | decide | kernel_rfl | simp

theorem scan_all : ∀ (l acc : KV) (m : Int), ((acc.length + l.length : Nat) : Int) ≤ m → scan m ⟨#[]⟩ acc l = (acc ++ l, true)
  | [], acc, m, _ => by simp [scan]
  | x :: l, acc, m, h => by
    have h1 : stop m ⟨#[]⟩ acc.length x.1 = false := by
      unfold stop notEmpty
      simp only [List.length_cons] at h
      have : ¬ (m ≤ (acc.length : Int)) := by omega
      simp [this]
    simp only [scan, h1]
    rw [if_neg (by simp), scan_all l (acc ++ [x]) m (by simp only [List.length_append, List.length_cons, List.length_nil] at h ⊢; omega)]
    simp

end Go.Proofs.Ytempbaflcbmcpaa
