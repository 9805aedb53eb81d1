/- (*Tree).Put. -/
import Derived.Test.YtempbaflcbmcpaaE
namespace Go.Proofs.Ytempbaflcbmcpaa
open Go.RowKit

theorem sz_pos {d : Nat} {t : AT (d + 1)} {l : Nat} (h : WF l (d + 1) t) (h2 : lo0 (d + 1) ≤ l) : 2 ≤ AT.sz (d + 1) t := Nat.le_trans h2 h.1

theorem put_wf0 {d : Nat} {t t' : AT d} (h : WF (lo0 d) d t) (h' : WF (min 2 (AT.sz d t)) d t') : WF (lo0 d) d t' := by
  cases d with
  | zero => exact WF.mono (by simp [lo0]) _ _ h'
  | succ d => rw [Nat.min_eq_left (sz_pos h (Nat.le_refl _))] at h'; exact h'

theorem put_wf2 {d : Nat} {t t' r : AT d} {k v : ByteArray} (hs : Srt (AT.toL d t)) (h : WF (lo0 d) d t) (h' : WF (min 2 (AT.sz d t)) d t') (hr : WF 2 d r) (hk : AT.toL d t' ++ AT.toL d r = ins k v (AT.toL d t)) : WF 2 d t' := by
  cases d with
  | zero =>
    have e1 : AT.sz 0 t = (AT.toL 0 t).length := rfl
    have e2 : (AT.toL 0 t').length = AT.sz 0 t' := rfl
    have e3 : (AT.toL 0 r).length = AT.sz 0 r := rfl
    have l1 := (WF.sz _ _ h').1
    have l2 := (WF.sz _ _ hr).1
    have l3 := length_ins k v _ hs
    have l4 := congrArg List.length hk
    rw [List.length_append, e2, e3] at l4
    have l5 : (ins k v (AT.toL 0 t)).length ≤ (AT.toL 0 t).length + 1 := by
      cases hg : get k (AT.toL 0 t) with
      | none => rw [l3.1 hg]; omega
      | some x => rw [l3.2 (by rw [hg]; simp)]; omega
    exact WF.of_sz _ _ h' (by omega)
  | succ d => rw [Nat.min_eq_left (sz_pos h (Nat.le_refl _))] at h'; exact h'

theorem put_none {w w1 : World} {tb n d : Nat} {t t' : AT d} {kv : KV} {k v : ByteArray} (_hn : n = kv.length) (h : TreeIs w tb d t kv) (hb' : AT.b d t' = AT.b d t) (hl' : Lies w1 d t') (hw' : WF (min 2 (AT.sz d t)) d t')
    (hk' : AT.toL d t' = ins k v (AT.toL d t)) (hnd' : (AT.blocks d t').Nodup) (hsub' : ∀ x ∈ AT.blocks d t', x ∈ AT.blocks d t ∨ w.heap.size ≤ x) (hch' : Chg (fun x => x ∈ AT.blocks d t) w w1) :
    TreeN w1 tb kv.length d t' (ins k v kv) ∧ (∀ x ∈ tb :: AT.blocks d t', x ∈ tb :: AT.blocks d t ∨ w.heap.size ≤ x) ∧ Chg (· ∈ tb :: AT.blocks d t) w w1 := by
  have htl := lt_of_heap h.hb
  have hnt := (List.nodup_cons.1 h.nd).1
  refine ⟨⟨?_, hl', put_wf0 h.wf hw', srt_ins k v kv h.srt, by rw [hk', h.toL], List.nodup_cons.2 ⟨fun hx => ?_, hnd'⟩⟩, ?_, hch'.mono (fun x _ hx => by simp [hx])⟩
  · rw [hb']; exact hch'.at h.hb hnt
  · rcases hsub' _ hx with hx | hx
    · exact hnt hx
    · omega
  · intro x hx
    rcases List.mem_cons.1 hx with rfl | hx
    · exact .inl (by simp)
    · rcases hsub' _ hx with hx | hx
      · exact .inl (by simp [hx])
      · exact .inr hx

theorem put_some {w w1 w2 : World} {tb d n : Nat} {t t' r : AT d} {kv : KV} {k v : ByteArray} (_hn : n = kv.length) (h : TreeIs w tb d t kv) (hl' : Lies w1 d t') (hw' : WF (min 2 (AT.sz d t)) d t')
    (hr' : Lies w1 d r ∧ WF 2 d r) (hk' : AT.toL d t' ++ AT.toL d r = ins k v (AT.toL d t)) (hnd' : (AT.blocks d t' ++ AT.blocks d r).Nodup) (hsub' : ∀ x ∈ AT.blocks d t' ++ AT.blocks d r, x ∈ AT.blocks d t ∨ w.heap.size ≤ x) (hch' : Chg (fun x => x ∈ AT.blocks d t) w w1) (hw2 : w2 = w1.drew) :
    ∃ t2 : AT (d + 1), TreeN (((w2.alloc (.cells #[.string (headKey d t'), ptr (AT.b d t'), .string (headKey d r), ptr (AT.b d r)] 54 (0, 0))).alloc (.cells #[.slice none 0 0, .slice (some ⟨w2.heap.size, 0, none⟩) 2 2] 62 (0, 0))).setCell ⟨tb, 0, none⟩ (ptr (w2.heap.size + 1))) tb kv.length (d + 1) t2 (ins k v kv) ∧
      (∀ x ∈ tb :: AT.blocks (d + 1) t2, x ∈ tb :: AT.blocks d t ∨ w.heap.size ≤ x) ∧
      Chg (· ∈ tb :: AT.blocks d t) w (((w2.alloc (.cells #[.string (headKey d t'), ptr (AT.b d t'), .string (headKey d r), ptr (AT.b d r)] 54 (0, 0))).alloc (.cells #[.slice none 0 0, .slice (some ⟨w2.heap.size, 0, none⟩) 2 2] 62 (0, 0))).setCell ⟨tb, 0, none⟩ (ptr (w2.heap.size + 1))) := by
  subst hw2
  have htl := lt_of_heap h.hb
  have hnt := (List.nodup_cons.1 h.nd).1
  have hd := Chg.drew (fun _ => False) w1
  have hw2t := put_wf2 (by rw [h.toL]; exact h.srt) h.wf hw' hr'.2 hk'
  rw [h.toL] at hk'
  obtain ⟨a1, a2, a3⟩ := root_two (w := w1.drew) (n := kv.length) (hd.at (hch'.at h.hb hnt) (fun h => h)) ⟨hl'.chg hd d t' (fun _ _ h => h), hw2t⟩ ⟨hr'.1.chg hd d r (fun _ _ h => h), hr'.2⟩ (srt_ins k v kv h.srt) hk'
    (List.nodup_cons.2 ⟨fun hx => by rcases hsub' _ hx with hx | hx; exact hnt hx; omega, hnd'⟩)
  refine ⟨_, a1, ?_, ?_⟩
  · intro x hx
    rcases a2 x hx with hx | hx
    · rcases List.mem_cons.1 hx with rfl | hx
      · exact .inl (by simp)
      · rcases hsub' _ hx with hx | hx
        · exact .inl (by simp [hx])
        · exact .inr hx
    · exact .inr (Nat.le_trans hch'.size hx)
  · exact ((hch'.mono (fun x _ hx => by simp [hx])).trans hd (fun _ _ h => h.elim)).trans a3 (fun x _ hx => by simp [hx])

theorem norm0 (w : World) (o1 o2 : Obj) (tb : Nat) (x : Value) (h : tb < w.heap.size) : ((w.drew.alloc o1).alloc o2).setCell ⟨tb, 0, none⟩ x = (((w.setCell ⟨tb, 0, none⟩ x).alloc o1).alloc o2).drew := by
  rw [World.setCell_alloc_past _ _ _ _ (by rw [World.size_alloc]; exact Nat.lt_succ_of_lt h), World.setCell_alloc_past _ _ _ _ (show tb < w.drew.heap.size from h)]; rfl
theorem norm1 (w : World) (o1 o2 : Obj) (tb : Nat) (x y : Value) (h : tb < w.heap.size) : (((w.drew.alloc o1).alloc o2).setCell ⟨tb, 0, none⟩ x).setCell ⟨tb, 1, none⟩ y = ((((w.setCell ⟨tb, 0, none⟩ x).setCell ⟨tb, 1, none⟩ y).alloc o1).alloc o2).drew := by
  rw [norm0 _ _ _ _ _ h]
  show (((w.drew.setCell ⟨tb, 0, none⟩ x).alloc o1).alloc o2).setCell _ _ = _
  rw [World.setCell_alloc_past _ _ _ _ (by rw [World.size_alloc, World.size_setCell]; exact Nat.lt_succ_of_lt h), World.setCell_alloc_past _ _ _ _ (by rw [World.size_setCell]; exact h)]; rfl

set_option maxRecDepth 100000 in
set_option maxHeartbeats 8000000 in
theorem putN (w : World) (tb d n : Nat) (t : AT d) (kv : KV) (k v : ByteArray) (hn : n = kv.length) (h : TreeIs w tb d t kv) (hlen : n ≤ 4611686018427387904) :
    Calls Try.prog 16 #[ptr tb, .string k, .string v] w (PutPost tb (tb :: AT.blocks d t) kv k v w) := by
  have h0c : w.cell? ⟨tb, 0, none⟩ = some (ptr (AT.b d t)) := cell_at h.hb 0
  have Hput : Hid (Calls Try.prog 28 #[ptr (AT.b d t), .string k, .string v] w (PutEnd (min 2 (AT.sz d t)) d t k v w)) := by
    refine put_calls d w (min 2 (AT.sz d t)) t k v h.lies (WF.of_sz _ _ h.wf (by omega)) (by rw [h.toL]; exact h.srt) (List.nodup_cons.1 h.nd).2 (by omega) (fun hd => ?_)
    have := (WF.sz _ _ h.wf).1
    cases d with
    | zero => omega
    | succ d => simp only [lo0] at this; omega
  have htl := lt_of_heap h.hb
  have Ht := Lib.hid h
  have Hn := Lib.hid hn
  have hwr : IntKind.i64.wrap ((n : Int) + 1) = (n : Int) + 1 := IntWalk.i64_in _ (by omega)
  clear h hn
  unfold ptr at h0c Hput
  unfold ptr
  go_enter Try.func16, Try.ntmps16
  go_wp2_with fail
  refine Hput.out.mono ?_
  rintro e w1 ⟨t', r, rfl, hb', hl', hw', hr', hk', hnd', hsub', hch'⟩
  rw [Ht.out.toL]
  have hb1 : w1.heap[tb]? = some (.cells #[ptr (AT.b d t'), .int .i64 (n : Nat)] 52 (0, 0)) := by
    rw [hb', Hn.out]; exact hch'.at Ht.out.hb (List.nodup_cons.1 Ht.out.nd).1
  clear h0c Hput
  cases r with
  | none =>
    simp only [restL, restB, List.append_nil] at hk' hnd' hsub'
    obtain ⟨f1, f2, f3⟩ := put_none Hn.out Ht.out hb' hl' hw' hk' hnd' hsub' hch'
    cases hgb : (get k kv).isSome
    all_goals
      obtain ⟨F1, F2⟩ := put_count hgb.symm Ht.out.srt f1 f2 f3 (by simp)
      rw [← Hn.out] at F2
      have HF1 := Lib.hid F1
      have HF2 := Lib.hid F2
      have h1c := cell_at hb1 1
      have h1f := free_at hb1 1
      clear F1 F2 f1 f2 f3 hb' hl' hw' hr' hk' hnd' hsub' hch' hb1
      unfold ptrOf
      go_wp2
      go_ret
      first | exact HF1.out rfl | exact HF1.out trivial | exact HF2.out rfl | exact HF2.out trivial
  | some r =>
    simp only [restL, restB] at hk' hnd' hsub'
    obtain ⟨t2, f1, f2, f3⟩ := put_some Hn.out Ht.out hl' hw' (hr' r rfl) hk' hnd' hsub' hch' rfl
    obtain ⟨gb, hgb⟩ : ∃ gb, gb = (get k kv).isSome := ⟨_, rfl⟩
    have HF := Lib.hid (put_count hgb Ht.out.srt f1 f2 f3 (by simp))
    rw [← Hn.out] at HF
    have Hb4 := Lib.hid f1.hb
    have hd : Chg (fun _ => False) w1 w1.drew := Chg.drew _ w1
    have w2t := put_wf2 (by rw [Ht.out.toL]; exact Ht.out.srt) Ht.out.wf hw' (hr' r rfl).2 hk'
    have Hf1 := Lib.hid (first_calls w1.drew d t' (hl'.chg hd d t' (fun _ _ h => h)) (WF.mono (by omega) _ _ w2t))
    have Hf2 := Lib.hid (first_calls w1.drew d r ((hr' r rfl).1.chg hd d r (fun _ _ h => h)) (WF.mono (by omega) _ _ (hr' r rfl).2))
    rw [← hgb]
    have h0c : w1.cell? ⟨tb, 0, none⟩ = some (ptr (AT.b d t')) := cell_at hb1 0
    have h0f := free_at hb1 0
    have h1c : w1.cell? ⟨tb, 1, none⟩ = some (.int .i64 (n : Nat)) := cell_at hb1 1
    have h1f := free_at hb1 1
    have htl2 := lt_of_heap hb1
    have hbb : Hid (AT.b d t = AT.b d t') := hb'.symm
    clear hgb f1 f2 f3 hb' hl' hw' hr' hk' hnd' hsub' hch' hb1 w2t hd
    unfold ptrOf
    unfold ptr at Hf1 Hf2 HF h0c Hb4
    go_wp2_with fail
    go_region_law (first | (go_simp; go_at_call_of 29 (Value.pointer (some ⟨AT.b d t', 0, none⟩)); refine Hf1.out.mono ?_; rintro e w9 ⟨rfl, rfl⟩) | (go_simp; go_at_call_of 29 (Value.pointer (some ⟨AT.b d r, 0, none⟩)); refine Hf2.out.mono ?_; rintro e w9 ⟨rfl, rfl⟩))
    all_goals
      have hF1 := HF.out.1
      have hF2 := HF.out.2
      rw [show w1.drew.heap.size = w1.heap.size from rfl] at hF1 hF2
      rw [norm0 _ _ _ _ _ htl2] at hF1
      rw [norm1 _ _ _ _ _ _ htl2] at hF2
      have HF1 := Lib.hid hF1
      have HF2 := Lib.hid hF2
      clear hF1 hF2
      cases gb
      all_goals
        go_wp2
        go_ret
        first | exact HF1.out rfl | exact HF1.out trivial | exact HF2.out rfl | exact HF2.out trivial

end Go.Proofs.Ytempbaflcbmcpaa
