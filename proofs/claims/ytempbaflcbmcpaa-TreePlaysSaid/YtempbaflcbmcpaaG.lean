/- (*Tree).Delete. -/
import Derived.Test.YtempbaflcbmcpaaE
namespace Go.Proofs.Ytempbaflcbmcpaa
open Go.RowKit

def DelPost (tb : Nat) (S : List Nat) (kv : KV) (k : ByteArray) (w : World) (e : Ending) (w' : World) : Prop :=
  e = .returned (.bool (get k kv).isSome) ∧ ∃ S', TreeAt w' tb S' (del k kv) ∧ (∀ x ∈ S', x ∈ S ∨ w.heap.size ≤ x) ∧ Chg (· ∈ S) w w'

/-- What a drop leaves of a tree, the count not yet turned. -/
theorem del_stage {w w1 : World} {tb d : Nat} {t t' : AT d} {kv : KV} (h : TreeIs w tb d t kv) (hb' : AT.b d t' = AT.b d t) (hnd' : (AT.blocks d t').Nodup) (hsub' : ∀ x ∈ AT.blocks d t', x ∈ AT.blocks d t ∨ w.heap.size ≤ x) (hch' : Chg (fun x => x ∈ AT.blocks d t) w w1) :
    w1.heap[tb]? = some (.cells #[ptr (AT.b d t'), .int .i64 (kv.length : Nat)] 52 (0, 0)) ∧ (tb :: AT.blocks d t').Nodup ∧ (∀ x ∈ tb :: AT.blocks d t', x ∈ tb :: AT.blocks d t ∨ w.heap.size ≤ x) ∧ Chg (· ∈ tb :: AT.blocks d t) w w1 := by
  have htl := lt_of_heap h.hb
  have hnt := (List.nodup_cons.1 h.nd).1
  refine ⟨?_, List.nodup_cons.2 ⟨fun hx => ?_, hnd'⟩, ?_, hch'.mono (fun x _ hx => by simp [hx])⟩
  · rw [hb']; exact hch'.at h.hb hnt
  · rcases hsub' _ hx with hx | hx
    · exact hnt hx
    · omega
  · intro x hx
    rcases List.mem_cons.1 hx with rfl | hx
    · exact .inl (by simp)
    · rcases hsub' _ hx with hx | hx
      · exact .inl (by simp [hx])
      · exact .inr hx

theorem del_yes {w w1 : World} {tb d m : Nat} {t' : AT d} {S : List Nat} {kv : KV} {k : ByteArray} (hs : Srt kv) (hg : (get k kv).isSome = true) (hm : kv.length = m + 1) (hb : w1.heap[tb]? = some (.cells #[ptr (AT.b d t'), .int .i64 (kv.length : Nat)] 52 (0, 0)))
    (hl : Lies w1 d t') (hw : WF (lo0 d) d t') (hk : AT.toL d t' = del k kv) (hnd : (tb :: AT.blocks d t').Nodup) (hsub : ∀ x ∈ tb :: AT.blocks d t', x ∈ S ∨ w.heap.size ≤ x) (hc : Chg (· ∈ S) w w1) (htb : tb ∈ S) :
    DelPost tb S kv k w (.returned (.bool true)) (w1.setCell ⟨tb, 1, none⟩ (.int .i64 (m : Nat))) := by
  have h : TreeN w1 tb kv.length d t' (del k kv) := ⟨hb, hl, hw, srt_del k kv hs, hk, hnd⟩
  have hlen := (length_del k kv hs).2 (by intro h; rw [h] at hg; cases hg)
  refine ⟨by rw [hg], _, ⟨d, t', ?_, rfl⟩, hsub, hc.trans (Chg.setCell (S := (· = tb)) (p := ⟨tb, 1, none⟩) (fun _ => rfl) _) (fun i _ e => e ▸ htb)⟩
  have := h.set m
  unfold TreeIs
  rw [show (del k kv).length = m by omega]
  exact this

theorem del_no {w w1 : World} {tb d : Nat} {t' : AT d} {S : List Nat} {kv : KV} {k : ByteArray} (hs : Srt kv) (hg : (get k kv).isSome = false) (hb : w1.heap[tb]? = some (.cells #[ptr (AT.b d t'), .int .i64 (kv.length : Nat)] 52 (0, 0)))
    (hl : Lies w1 d t') (hw : WF (lo0 d) d t') (hk : AT.toL d t' = del k kv) (hnd : (tb :: AT.blocks d t').Nodup) (hsub : ∀ x ∈ tb :: AT.blocks d t', x ∈ S ∨ w.heap.size ≤ x) (hc : Chg (· ∈ S) w w1) :
    DelPost tb S kv k w (.returned (.bool false)) w1 := by
  have hlen := (length_del k kv hs).1 (by cases h : get k kv with | none => rfl | some x => rw [h] at hg; cases hg)
  refine ⟨by rw [hg], _, ⟨d, t', ⟨?_, hl, hw, srt_del k kv hs, hk, hnd⟩, rfl⟩, hsub, hc⟩
  rw [hlen]; exact hb

/-- A root with one kid is that kid. -/
theorem del_one {w w1 : World} {tb d m b : Nat} {tv : Value} {key : ByteArray} {x : AT d} {S : List Nat} {kv : KV} {k : ByteArray} (hs : Srt kv) (hg : (get k kv).isSome = true) (hm : kv.length = m + 1) (hb : w1.heap[tb]? = some (.cells #[ptr b, .int .i64 (kv.length : Nat)] 52 (0, 0)))
    (hl : Lies w1 (d + 1) (⟨b, tv, [(key, x)]⟩ : Inner (AT d))) (hw : WF 1 (d + 1) (⟨b, tv, [(key, x)]⟩ : Inner (AT d))) (hk : AT.toL (d + 1) (⟨b, tv, [(key, x)]⟩ : Inner (AT d)) = del k kv) (hnd : (tb :: AT.blocks (d + 1) (⟨b, tv, [(key, x)]⟩ : Inner (AT d))).Nodup)
    (hsub : ∀ y ∈ tb :: AT.blocks (d + 1) (⟨b, tv, [(key, x)]⟩ : Inner (AT d)), y ∈ S ∨ w.heap.size ≤ y) (hc : Chg (· ∈ S) w w1) (htb : tb ∈ S) :
    DelPost tb S kv k w (.returned (.bool true)) ((w1.setCell ⟨tb, 1, none⟩ (.int .i64 (m : Nat))).setCell ⟨tb, 0, none⟩ (ptr (AT.b d x))) := by
  have hx : x ∈ [x] := by simp
  have hsub2 : ∀ y ∈ AT.blocks d x, y ∈ AT.blocks (d + 1) (⟨b, tv, [(key, x)]⟩ : Inner (AT d)) := fun y hy => by simp [AT.blocks, hy]
  have c1 : Chg (· = tb) w1 (w1.setCell ⟨tb, 1, none⟩ (.int .i64 (m : Nat))) := Chg.setCell (S := (· = tb)) (p := ⟨tb, 1, none⟩) (fun _ => rfl) _
  have c2 : Chg (· = tb) (w1.setCell ⟨tb, 1, none⟩ (.int .i64 (m : Nat))) ((w1.setCell ⟨tb, 1, none⟩ (.int .i64 (m : Nat))).setCell ⟨tb, 0, none⟩ (ptr (AT.b d x))) := Chg.setCell (S := (· = tb)) (p := ⟨tb, 0, none⟩) (fun _ => rfl) _
  have c := c1.trans c2 (fun _ _ h => h)
  have hlen := (length_del k kv hs).2 (by intro h; rw [h] at hg; cases hg)
  have hn := List.nodup_cons.1 hnd
  have hnx : (AT.blocks d x).Nodup := by
    have := hn.2
    simp only [AT.blocks, List.flatMap_cons, List.flatMap_nil, List.append_nil, List.nodup_cons, List.nodup_append] at this
    exact this.2.2.1
  refine ⟨by rw [hg], _, ⟨d, x, ⟨?_, ?_, ?_, srt_del k kv hs, ?_, List.nodup_cons.2 ⟨fun h => hn.1 (hsub2 _ h), hnx⟩⟩, rfl⟩, ?_, hc.trans c (fun i _ e => e ▸ htb)⟩
  · have := heap_setCell _ tb 0 _ 52 (ptr (AT.b d x)) (heap_setCell w1 tb 1 _ 52 (.int .i64 (m : Nat)) hb)
    rw [show (del k kv).length = m by omega]
    exact this
  · exact (hl.2.2 (key, x) (by simp)).chg c d x (fun y hy e => hn.1 (e ▸ hsub2 y hy))
  · exact WF.mono (by cases d <;> simp [lo0]) _ _ (hw.2.2.2 (key, x) (by simp))
  · rw [← hk]; simp [AT.toL]
  · intro y hy
    rcases List.mem_cons.1 hy with rfl | hy
    · exact hsub _ (by simp)
    · exact hsub _ (List.mem_cons_of_mem _ (hsub2 y hy))

set_option maxRecDepth 100000 in
set_option maxHeartbeats 1000000 in
theorem deleteN (w : World) (tb d n : Nat) (t : AT d) (kv : KV) (k : ByteArray) (hn : n = kv.length) (h : TreeIs w tb d t kv) (hlen : n ≤ 4611686018427387904) :
    Calls Try.prog 11 #[ptr tb, .string k] w (DelPost tb (tb :: AT.blocks d t) kv k w) := by
  have h0c : w.cell? ⟨tb, 0, none⟩ = some (ptr (AT.b d t)) := cell_at h.hb 0
  have Hdrop := Lib.hid (drop_calls d w (lo0 d) t k h.lies h.wf (by rw [h.toL]; exact h.srt) (List.nodup_cons.1 h.nd).2 (fun hd => by cases d with | zero => omega | succ d => rfl))
  have htl := lt_of_heap h.hb
  have Ht := Lib.hid h
  have Hn := Lib.hid hn
  clear h hn
  unfold ptr at h0c Hdrop
  unfold ptr
  go_enter Try.func11, Try.ntmps11
  go_wp2_with fail
  refine Hdrop.out.mono ?_
  rintro e w1 ⟨t', rfl, hb', hl', hw', hwn', hk', hnd', hsub', hch'⟩
  rw [Ht.out.toL] at hk' hwn'
  rw [Ht.out.toL]
  obtain ⟨hb1, hnd1, hsub1, hch1⟩ := del_stage Ht.out hb' hnd' hsub' hch'
  have h1c1 : w1.cell? ⟨tb, 1, none⟩ = some (.int .i64 (n : Nat)) := by rw [Hn.out]; exact cell_at hb1 1
  have h0c1 : w1.cell? ⟨tb, 0, none⟩ = some (ptr (AT.b d t')) := cell_at hb1 0
  have hf1 : w1.frozen? ⟨tb, 1, none⟩ = false := free_at hb1 1
  have hf0 : w1.frozen? ⟨tb, 0, none⟩ = false := free_at hb1 0
  have htl1 := lt_of_heap hb1
  clear h0c Hdrop hb' hnd' hsub' hch'
  cases hg : (get k kv).isSome
  · have Hf := Lib.hid (del_no Ht.out.srt hg hb1 hl' (hwn' (by cases h : get k kv with | none => rfl | some x => rw [h] at hg; cases hg)) hk' hnd1 hsub1 hch1)
    clear hb1 hl' hw' hwn' hk' hnd1 hsub1 hch1
    go_wp2
    go_ret
    exact Hf.out
  · obtain ⟨m, hm⟩ : ∃ m, n = m + 1 := ⟨n - 1, by
      have := (length_del k kv Ht.out.srt).2 (by intro h; rw [h] at hg; cases hg)
      have := Hn.out
      omega⟩
    subst hm
    have hwr : IntKind.i64.wrap (((m + 1 : Nat) : Int) - 1) = (m : Int) := by
      rw [show ((m + 1 : Nat) : Int) - 1 = (m : Int) by omega]; exact IntWalk.i64_in _ (by omega)
    cases d with
    | zero =>
      obtain ⟨b, tv, kv'⟩ := (t' : Leaf)
      have h1b : w1.cell? ⟨b, 1, none⟩ = some (.slice none 0 0) := cell_at hl'.1 1
      have hbl := lt_of_heap hl'.1
      have hne : b ≠ tb := by
        have := List.nodup_cons.1 hnd1
        exact fun e => this.1 (by simp [AT.blocks, e])
      have Hf := Lib.hid (del_yes Ht.out.srt hg Hn.out.symm hb1 hl' (WF.mono (by simp [lo0]) _ _ hw') hk' hnd1 hsub1 hch1 (by simp))
      clear hb1 hl' hw' hwn' hk' hnd1 hsub1 hch1
      replace h0c1 : w1.cell? ⟨tb, 0, none⟩ = some (.pointer (some ⟨b, 0, none⟩)) := h0c1
      go_wp2
      go_ret
      exact Hf.out
    | succ d =>
      obtain ⟨b, tv, ks⟩ := (t' : Inner (AT d))
      obtain ⟨hbl0, ho, hkl⟩ := hl'
      replace ho : w1.ownsRow 0 54 2 tv ks.length (kidCells d ks) := ho
      have hk1 : 1 ≤ ks.length := hw'.1
      obtain ⟨g, c, hv, -, -, hcell⟩ := row_form ho (by omega)
      subst hv
      have h1b : w1.cell? ⟨b, 1, none⟩ = some (.slice (some ⟨g, 0, none⟩) ks.length c) := cell_at hbl0 1
      have hbl := lt_of_heap hbl0
      have hne : b ≠ tb := by
        have := List.nodup_cons.1 hnd1
        exact fun e => this.1 (by simp [AT.blocks, e])
      replace h0c1 : w1.cell? ⟨tb, 0, none⟩ = some (.pointer (some ⟨b, 0, none⟩)) := h0c1
      by_cases h1 : ks.length = 1
      · obtain ⟨⟨key, x⟩, rfl⟩ : ∃ x, ks = [x] := by
          match ks, h1 with
          | [x], _ => exact ⟨x, rfl⟩
        have hkc : w1.cell? ⟨g, 1, none⟩ = some (.pointer (some ⟨AT.b d x, 0, none⟩)) := hcell 1 _ rfl
        have hgl := (ho.lt g rfl).2
        have hgt : g ≠ tb := by
          have := List.nodup_cons.1 hnd1
          exact fun e => this.1 (by simp [AT.blocks, Value.ownBlock, e])
        have Hf := Lib.hid (del_one Ht.out.srt hg Hn.out.symm hb1 ⟨hbl0, ho, hkl⟩ hw' hk' hnd1 hsub1 hch1 (by simp))
        clear hb1 hbl0 ho hkl hw' hwn' hk' hnd1 hsub1 hch1 hcell
        simp only [List.length_cons, List.length_nil, Nat.zero_add] at h1b
        unfold ptr at Hf
        go_wp2
        go_ret
        exact Hf.out
      · have hne1 : (((ks.length : Nat) : Int) == 1) = false := by simp; omega
        have Hf := Lib.hid (del_yes (d := d + 1) (t' := (⟨b, .slice (some ⟨g, 0, none⟩) ks.length c, ks⟩ : Inner (AT d))) Ht.out.srt hg Hn.out.symm hb1 ⟨hbl0, ho, hkl⟩ (WF.of_sz _ _ hw' (by show 2 ≤ ks.length; omega)) hk' hnd1 hsub1 hch1 (by simp))
        obtain ⟨q, hq⟩ : ∃ q, ks.length = q := ⟨_, rfl⟩
        rw [hq] at h1b hne1
        clear hb1 hbl0 ho hkl hw' hwn' hk' hnd1 hsub1 hch1 hcell
        go_wp2
        go_ret
        exact Hf.out

end Go.Proofs.Ytempbaflcbmcpaa
