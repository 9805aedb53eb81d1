/- Trees as the package tells them: New, Len, Put. -/
import Derived.Test.YtempbaflcbmcpaaY
namespace Go.Proofs.Ytempbaflcbmcpaa
open Go.RowKit

def lo0 : Nat → Nat
  | 0 => 0
  | _ + 1 => 2

/-- A tree's blocks, what it holds, and the count that it tells. -/
structure TreeN (w : World) (tb n : Nat) (d : Nat) (t : AT d) (kv : KV) : Prop where
  hb : w.heap[tb]? = some (.cells #[ptr (AT.b d t), .int .i64 (n : Nat)] 52 (0, 0))
  lies : Lies w d t
  wf : WF (lo0 d) d t
  srt : Srt kv
  toL : AT.toL d t = kv
  nd : (tb :: AT.blocks d t).Nodup

abbrev TreeIs (w : World) (tb : Nat) (d : Nat) (t : AT d) (kv : KV) : Prop := TreeN w tb kv.length d t kv
def TreeAt (w : World) (tb : Nat) (S : List Nat) (kv : KV) : Prop := ∃ d t, TreeIs w tb d t kv ∧ S = tb :: AT.blocks d t

theorem TreeN.chg {T : Nat → Prop} {w w' : World} {tb n d : Nat} {t : AT d} {kv : KV} (h : TreeN w tb n d t kv) (hc : Chg T w w') (hn : ∀ k ∈ tb :: AT.blocks d t, ¬ T k) : TreeN w' tb n d t kv :=
  ⟨hc.at h.hb (hn _ (by simp)), h.lies.chg hc d t (fun k hk => hn k (by simp [hk])), h.wf, h.srt, h.toL, h.nd⟩
theorem TreeAt.chg {T : Nat → Prop} {w w' : World} {tb : Nat} {S : List Nat} {kv : KV} (h : TreeAt w tb S kv) (hc : Chg T w w') (hn : ∀ k ∈ S, ¬ T k) : TreeAt w' tb S kv := by
  obtain ⟨d, t, h, rfl⟩ := h
  exact ⟨d, t, TreeN.chg h hc hn, rfl⟩
theorem TreeAt.lt {w : World} {tb : Nat} {S : List Nat} {kv : KV} (h : TreeAt w tb S kv) : ∀ k ∈ S, k < w.heap.size := by
  obtain ⟨d, t, h, rfl⟩ := h
  intro k hk
  rcases List.mem_cons.1 hk with rfl | hk
  · exact lt_of_heap h.hb
  · exact Lies.lt d t h.lies k hk
theorem TreeAt.srt {w : World} {tb : Nat} {S : List Nat} {kv : KV} (h : TreeAt w tb S kv) : Srt kv := by
  obtain ⟨d, t, h, rfl⟩ := h
  exact h.srt

theorem new_calls (w : World) : Calls Try.prog 19 #[] w fun e w' => ∃ tb, e = .returned (ptr tb) ∧ ∃ S, TreeAt w' tb S [] ∧ (∀ x ∈ S, w.heap.size ≤ x) ∧ Chg (fun _ => False) w w' := by
  go_enter Try.func19, Try.ntmps19
  go_wp2
  go_ret
  refine ⟨w.heap.size + 1, by simp [ptr], [w.heap.size + 1, w.heap.size], ⟨0, (⟨w.heap.size, .slice none 0 0, []⟩ : Leaf), ⟨?_, ⟨?_, World.ownsRow_nil _ _ _ _⟩, ⟨by simp [lo0], by simp⟩, List.Pairwise.nil, rfl, by simp [AT.blocks, Value.ownBlock]⟩, ?_⟩, by simp, ?_⟩
  · have := heap_alloc_new (w.alloc (.cells #[.slice none 0 0, .slice none 0 0] 62 (0, 0))) (.cells #[.pointer (some { block := w.heap.size, off := 0 }), .int .i64 0] 52 (0, 0))
    rw [World.size_alloc] at this
    exact this
  · rw [Below.heap_alloc _ _ _ (by simp)]
    exact heap_alloc_new w _
  · rfl
  · exact (Chg.alloc _ w _).trans (Chg.alloc (fun _ => False) _ _) (fun _ _ h => h)

theorem len_calls (w : World) (tb : Nat) (S : List Nat) (kv : KV) (h : TreeAt w tb S kv) :
    Calls Try.prog 9 #[ptr tb] w fun e w' => e = .returned (.int .i64 (kv.length : Nat)) ∧ w = w' := by
  obtain ⟨d, t, h, rfl⟩ := h
  have h1 := cell_at h.hb 1
  clear h
  unfold ptr
  go_enter Try.func9, Try.ntmps9
  go_wp2
  go_ret
  exact ⟨rfl, rfl⟩

theorem TreeN.set {w : World} {tb n d : Nat} {t : AT d} {kv : KV} (h : TreeN w tb n d t kv) (m : Nat) : TreeN (w.setCell ⟨tb, 1, none⟩ (.int .i64 (m : Nat))) tb m d t kv := by
  have hc : Chg (· = tb) w (w.setCell ⟨tb, 1, none⟩ (.int .i64 (m : Nat))) := Chg.setCell (S := (· = tb)) (p := ⟨tb, 1, none⟩) (fun _ => rfl) _
  refine ⟨heap_setCell w tb 1 _ 52 _ h.hb, h.lies.chg hc d t (fun k hk e => ?_), h.wf, h.srt, h.toL, h.nd⟩
  have := (List.nodup_cons.1 h.nd).1
  exact this (e ▸ hk)

def PutPost (tb : Nat) (S : List Nat) (kv : KV) (k v : ByteArray) (w : World) (e : Ending) (w' : World) : Prop :=
  e = .returned (.bool (get k kv).isSome) ∧ ∃ S', TreeAt w' tb S' (ins k v kv) ∧ (∀ x ∈ S', x ∈ S ∨ w.heap.size ≤ x) ∧ Chg (· ∈ S) w w'

theorem put_count {tb d : Nat} {t : AT d} {S : List Nat} {kv : KV} {k v : ByteArray} {w w' : World} {was : Bool} (hw : was = (get k kv).isSome) (hs : Srt kv) (h : TreeN w' tb kv.length d t (ins k v kv)) (h2 : ∀ x ∈ tb :: AT.blocks d t, x ∈ S ∨ w.heap.size ≤ x) (hc : Chg (· ∈ S) w w') (htb : tb ∈ S) :
    (was = true → PutPost tb S kv k v w (.returned (.bool true)) w') ∧ (was = false → PutPost tb S kv k v w (.returned (.bool false)) (w'.setCell ⟨tb, 1, none⟩ (.int .i64 ((kv.length : Nat) + 1)))) := by
  subst hw
  have hl := length_ins k v kv hs
  constructor
  · intro e
    refine ⟨by rw [e], _, ⟨d, t, ?_, rfl⟩, h2, hc⟩
    unfold TreeIs
    rw [hl.2 (by intro h; rw [h] at e; cases e)]
    exact h
  · intro e
    have := h.set (kv.length + 1)
    have hg : (ins k v kv).length = kv.length + 1 := hl.1 (by cases hg : get k kv with | none => rfl | some x => rw [hg] at e; cases e)
    refine ⟨by rw [e], _, ⟨d, t, ?_, rfl⟩, h2, hc.trans (Chg.setCell (S := (· = tb)) (p := ⟨tb, 1, none⟩) (fun _ => rfl) _) (fun i _ e => e ▸ htb)⟩
    unfold TreeIs
    rw [hg]
    exact this

/-- Two of a kind under a new root. -/
theorem root_two {w : World} {tb n d : Nat} {l r : AT d} {p0 : Value} {kv : KV} (hb : w.heap[tb]? = some (.cells #[p0, .int .i64 (n : Nat)] 52 (0, 0))) (hl : Lies w d l ∧ WF 2 d l) (hr : Lies w d r ∧ WF 2 d r)
    (hs : Srt kv) (hk : AT.toL d l ++ AT.toL d r = kv) (hnd : (tb :: (AT.blocks d l ++ AT.blocks d r)).Nodup) :
    TreeN (((w.alloc (.cells #[.string (headKey d l), ptr (AT.b d l), .string (headKey d r), ptr (AT.b d r)] 54 (0, 0))).alloc (.cells #[.slice none 0 0, .slice (some ⟨w.heap.size, 0, none⟩) 2 2] 62 (0, 0))).setCell ⟨tb, 0, none⟩ (ptr (w.heap.size + 1)))
      tb n (d + 1) (⟨w.heap.size + 1, .slice (some ⟨w.heap.size, 0, none⟩) 2 2, [(headKey d l, l), (headKey d r, r)]⟩ : Inner (AT d)) kv ∧
    (∀ x ∈ tb :: AT.blocks (d + 1) (⟨w.heap.size + 1, .slice (some ⟨w.heap.size, 0, none⟩) 2 2, [(headKey d l, l), (headKey d r, r)]⟩ : Inner (AT d)), x ∈ tb :: (AT.blocks d l ++ AT.blocks d r) ∨ w.heap.size ≤ x) ∧
    Chg (· = tb) w (((w.alloc (.cells #[.string (headKey d l), ptr (AT.b d l), .string (headKey d r), ptr (AT.b d r)] 54 (0, 0))).alloc (.cells #[.slice none 0 0, .slice (some ⟨w.heap.size, 0, none⟩) 2 2] 62 (0, 0))).setCell ⟨tb, 0, none⟩ (ptr (w.heap.size + 1))) := by
  obtain ⟨w1, hw1⟩ : ∃ w1, w1 = w.alloc (.cells #[.string (headKey d l), ptr (AT.b d l), .string (headKey d r), ptr (AT.b d r)] 54 (0, 0)) := ⟨_, rfl⟩
  obtain ⟨w2, hw2⟩ : ∃ w2, w2 = w1.alloc (.cells #[.slice none 0 0, .slice (some ⟨w.heap.size, 0, none⟩) 2 2] 62 (0, 0)) := ⟨_, rfl⟩
  rw [← hw1, ← hw2]
  have hs1 : w1.heap.size = w.heap.size + 1 := by rw [hw1]; simp
  have htl := lt_of_heap hb
  have c1 : Chg (fun _ => False) w w1 := hw1 ▸ Chg.alloc _ w _
  have c2 : Chg (fun _ => False) w1 w2 := hw2 ▸ Chg.alloc _ w1 _
  have c3 : Chg (· = tb) w2 (w2.setCell ⟨tb, 0, none⟩ (ptr (w.heap.size + 1))) := Chg.setCell (S := (· = tb)) (p := ⟨tb, 0, none⟩) (fun _ => rfl) _
  have call : Chg (· = tb) w (w2.setCell ⟨tb, 0, none⟩ (ptr (w.heap.size + 1))) := (c1.trans c2 (fun _ _ h => h)).mono (fun _ _ h => h.elim) |>.trans c3 (fun _ _ h => h)
  have e1 : w1.heap[w.heap.size]? = some (.cells #[.string (headKey d l), ptr (AT.b d l), .string (headKey d r), ptr (AT.b d r)] 54 (0, 0)) := hw1 ▸ heap_alloc_new w _
  have e2 : w2.heap[w.heap.size + 1]? = some (.cells #[.slice none 0 0, .slice (some ⟨w.heap.size, 0, none⟩) 2 2] 62 (0, 0)) := by
    have := heap_alloc_new w1 (.cells #[.slice none 0 0, .slice (some ⟨w.heap.size, 0, none⟩) 2 2] 62 (0, 0))
    rw [hs1, ← hw2] at this; exact this
  have hnl := Lies.lt d l hl.1
  have hnr := Lies.lt d r hr.1
  simp only [List.nodup_cons, List.mem_append, not_or] at hnd
  obtain ⟨v1, r1, g1⟩ := headKey_cons d l (WF.mono (by omega) _ _ hl.2)
  obtain ⟨v2, r2, g2⟩ := headKey_cons d r (WF.mono (by omega) _ _ hr.2)
  refine ⟨⟨?_, ⟨?_, ?_, ?_⟩, ⟨?_, ?_, ?_, ?_⟩, hs, ?_, ?_⟩, ?_, call⟩
  · have := heap_setCell w2 tb 0 _ 52 (ptr (w.heap.size + 1)) ((c1.trans c2 (fun _ _ h => h)).at hb (fun h => h))
    exact this
  · exact c3.at e2 (by show ¬ (w.heap.size + 1 = tb); omega)
  · refine ⟨rfl, .inr ⟨w.heap.size, 2, _, rfl, Nat.zero_le _, c3.at (c2.at e1 (fun h => h)) (by omega), Nat.le_refl 2, by simp [maxLen], rfl, rfl⟩⟩
  · intro x hx
    simp only [List.mem_cons, List.not_mem_nil, or_false] at hx
    rcases hx with rfl | rfl
    · exact hl.1.chg call d l (fun k hk e => hnd.1.1 (e ▸ hk))
    · exact hr.1.chg call d r (fun k hk e => hnd.1.2 (e ▸ hk))
  · exact Nat.le_refl 2
  · show 2 ≤ 4; omega
  · exact keyed_cons.2 ⟨⟨v1, r1, g1⟩, keyed_cons.2 ⟨⟨v2, r2, g2⟩, fun _ h => by cases h⟩⟩
  · intro x hx
    simp only [List.mem_cons, List.not_mem_nil, or_false] at hx
    rcases hx with rfl | rfl
    · exact hl.2
    · exact hr.2
  · rw [toL_inner]; simp [segsOf, segs, hk]
  · show (tb :: (w.heap.size + 1) :: ([w.heap.size] ++ (AT.blocks d l ++ (AT.blocks d r ++ [])))).Nodup
    simp only [List.append_nil, List.cons_append, List.nil_append, List.nodup_cons, List.mem_cons, List.mem_append, not_or]
    refine ⟨⟨by omega, by omega, hnd.1.1, hnd.1.2⟩, ⟨by omega, fun h => ?_, fun h => ?_⟩, ⟨fun h => ?_, fun h => ?_⟩, hnd.2⟩
    · have := hnl _ h; omega
    · have := hnr _ h; omega
    · have := hnl _ h; omega
    · have := hnr _ h; omega
  · intro x hx
    replace hx : x ∈ tb :: (w.heap.size + 1) :: ([w.heap.size] ++ (AT.blocks d l ++ (AT.blocks d r ++ []))) := hx
    simp only [List.append_nil, List.cons_append, List.nil_append, List.mem_cons, List.mem_append] at hx ⊢
    rcases hx with h | h | h | h | h
    · exact .inl (.inl h)
    · exact .inr (by omega)
    · exact .inr (by omega)
    · exact .inl (.inr (.inl h))
    · exact .inl (.inr (.inr h))

end Go.Proofs.Ytempbaflcbmcpaa
