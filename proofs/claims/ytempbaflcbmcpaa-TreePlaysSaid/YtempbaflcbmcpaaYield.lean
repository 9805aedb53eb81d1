/- The closure of Scan. -/
import Derived.Test.YtempbaflcbmcpaaGet
import Derived.Deep.DeepAppendWide
namespace Go.Proofs.Ytempbaflcbmcpaa
open Go.RowKit

theorem Try.info47 : (Try.prog.info? 47).map (fun i => (i.zero, i.size, i.bytes)) = some (some (.agg #[.string ⟨#[]⟩, .string ⟨#[]⟩]), 2, 32) := by kernel_rfl

def notEmpty (to : ByteArray) : Bool := ! to.toList.isEmpty
def stop (most : Int) (to : ByteArray) (n : Nat) (k : ByteArray) : Bool := decide (most ≤ (n : Int)) || (notEmpty to && ! lt k to)

/-- What a scan has gathered: the variable, and the two that are only read. -/
structure Out (C ob mb pb : Nat) (most : Int) (to : ByteArray) (acc : KV) (w : World) : Prop where
  v : ∃ v, w.heap[ob]? = some (.cells #[v] 22 (0, 0)) ∧ w.ownsRow C 47 2 v acc.length (leafCells acc)
  hm : w.cell? ⟨mb, 0, none⟩ = some (.int .i64 most)
  hp : w.cell? ⟨pb, 0, none⟩ = some (.string to)
  hlt : ob < C ∧ mb < C ∧ pb < C ∧ C ≤ w.heap.size
  hne : ob ≠ mb ∧ ob ≠ pb

theorem Out.chg {C ob mb pb : Nat} {most : Int} {to : ByteArray} {acc : KV} {w w' : World} (h : Out C ob mb pb most to acc w) {S : Nat → Prop} (hc : Chg S w w') (hS : ∀ x, x < w.heap.size → ¬ S x) : Out C ob mb pb most to acc w' := by
  obtain ⟨⟨v, h1, h2⟩, h3, h4, h5, h6⟩ := h
  exact ⟨⟨v, hc.at h1 (hS _ (lt_of_heap h1)), ownsRow_chg hc h2 (fun k hk => hS k (h2.lt k hk).2)⟩, hc.cell h3 (hS _ (World.block_lt_of_cell? w _ h3)), hc.cell h4 (hS _ (World.block_lt_of_cell? w _ h4)), ⟨h5.1, h5.2.1, h5.2.2.1, Nat.le_trans h5.2.2.2 hc.size⟩, h6⟩

def YieldEnd (C ob mb pb : Nat) (most : Int) (to : ByteArray) (acc : KV) (k v : ByteArray) (w : World) (e : Ending) (w' : World) : Prop :=
  e = .returned (.bool (! stop most to acc.length k)) ∧ Out C ob mb pb most to (if stop most to acc.length k then acc else acc ++ [(k, v)]) w' ∧ Chg (fun x => x = ob ∨ C ≤ x) w w'

theorem leafCells_snoc (acc : KV) (k v : ByteArray) : leafCells (acc ++ [(k, v)]) = leafCells acc ++ [.string k, .string v] := by
  simp [leafCells, cellsOf]

theorem slice_formB {w : World} {B e n s : Nat} {v : Value} {xs : List Value} (h : w.ownsRow B e s v n xs) : ∃ p c, v = .slice p n c := by
  rcases h.2 with ⟨rfl, h0⟩ | ⟨g, cap, cur, rfl, _, _, h1, h2, _⟩
  · exact ⟨none, 0, by rw [h0]⟩
  · exact ⟨_, cap, rfl⟩

theorem yield_more {C ob mb pb n c : Nat} {most : Int} {to : ByteArray} {acc : KV} {k v : ByteArray} {p : Option Addr} {w : World} (hn : n = acc.length) (hob : w.heap[ob]? = some (.cells #[.slice p n c] 22 (0, 0))) (ho : w.ownsRow C 47 2 (.slice p n c) n (leafCells acc))
    (h : Out C ob mb pb most to acc w) (hlen : n ≤ 5000000000000) (W : World) (hW : W = (w.alloc (.cells #[.string k, .string v] 47 (0, 0))).alloc (.cells #[.string k, .string v] 47 (0, 0))) :
    ∃ v' w', (∃ p' c', v' = .slice p' (n + 1) c') ∧ (∀ ty, (Builtin.append_ #[22, 22] ty #[.slice p n c, .slice (some ⟨w.heap.size + 1, 0, none⟩) 1 1]).run Try.prog W = .ok v' w') ∧ w'.frozen? ⟨ob, 0, none⟩ = false ∧ (w'.cell? ⟨ob, 0, none⟩ = some (.slice p n c)) ∧ ob < w'.heap.size ∧
      Hid (Out C ob mb pb most to (acc ++ [(k, v)]) (w'.setCell ⟨ob, 0, none⟩ v') ∧ Chg (fun x => x = ob ∨ C ≤ x) w (w'.setCell ⟨ob, 0, none⟩ v')) := by
  obtain ⟨i0, hi0, hz0, hz1, hz2⟩ := info_parts Try.info47
  obtain ⟨-, h3, h4, h5, h6⟩ := h
  obtain ⟨W1, hW1⟩ : ∃ W1, W1 = w.alloc (.cells #[.string k, .string v] 47 (0, 0)) := ⟨_, rfl⟩
  rw [← hW1] at hW
  have c1 : Chg (fun _ => False) w W1 := hW1 ▸ Chg.alloc _ w _
  have c2 : Chg (fun _ => False) W1 W := hW ▸ Chg.alloc _ W1 _
  have c12 := c1.trans c2 (fun _ _ h => h)
  have hs1 : W1.heap.size = w.heap.size + 1 := by rw [hW1]; simp
  have hsrc : W.heap[w.heap.size + 1]? = some (.cells #[.string k, .string v] 47 (0, 0)) := by
    have := heap_alloc_new W1 (.cells #[.string k, .string v] 47 (0, 0))
    rw [hs1, ← hW] at this; exact this
  have hcells : ∀ (j : Nat) (u : Value), ([.string k, .string v] : List Value)[j]? = some u → W.cell? ((⟨w.heap.size + 1, 0, none⟩ : Addr).add j) = some u := by
    intro j u hj
    rw [Addr.add_lit, Nat.zero_add, cell_at hsrc]
    simpa using hj
  have hown2 := ownsRow_chg c12 ho (fun _ _ h => h)
  have hb := Nat.le_trans h5.2.2.2 c12.size
  obtain ⟨v', w', hr, hown', hgr, -⟩ := run_append_own_wide (P := Try.prog) W C 22 22 47 i0 _ 2 32 Try.underlying22 hi0 hz0 hz1 hz2 rfl (by decide) (.slice p n c) n (leafCells acc) hown2 ⟨w.heap.size + 1, 0, none⟩ 1 1 [.string k, .string v] rfl hcells (by intro u hu; simp at hu; rcases hu with rfl | rfl <;> rfl) (by unfold maxLen; omega) (by omega) hb
  have c3 : Chg (fun x => C ≤ x) W w' := Chg.of_grown hgr (fun x hx => (hown2.lt x hx).1)
  have hob' := c3.at (c12.at hob (fun h => h)) (by have := h5.1; omega)
  have c4 : Chg (fun x => x = ob) w' (w'.setCell ⟨ob, 0, none⟩ v') := Chg.setCell (S := fun x => x = ob) (p := ⟨ob, 0, none⟩) (fun _ => rfl) _
  have call : Chg (fun x => x = ob ∨ C ≤ x) w (w'.setCell ⟨ob, 0, none⟩ v') := ((c12.mono (fun _ _ h => h.elim)).trans c3 (fun _ _ h => .inr h)).trans c4 (fun _ _ h => .inl h)
  refine ⟨v', w', slice_formB hown', fun ty => ?_, free_at hob' 0, cell_at hob' 0, lt_of_heap hob', ⟨⟨v', heap_setCell w' ob 0 _ 22 v' hob', ?_⟩, ?_, ?_, ⟨h5.1, h5.2.1, h5.2.2.1, Nat.le_trans h5.2.2.2 call.size⟩, h6⟩, call⟩
  · obtain ⟨v2, w2, hr2, -⟩ := run_append_own_wide (P := Try.prog) W C 22 ty 47 i0 _ 2 32 Try.underlying22 hi0 hz0 hz1 hz2 rfl (by decide) (.slice p n c) n (leafCells acc) hown2 ⟨w.heap.size + 1, 0, none⟩ 1 1 [.string k, .string v] rfl hcells (by intro u hu; simp at hu; rcases hu with rfl | rfl <;> rfl) (by unfold maxLen; omega) (by omega) hb
    exact hr
  · rw [leafCells_snoc, List.length_append, ← hn]
    refine ownsRow_chg c4 hown' (fun x hx e => ?_)
    have := (hown'.lt x hx).1
    have := h5.1
    omega
  · exact call.cell h3 (by show ¬ (mb = ob ∨ C ≤ mb); omega)
  · exact call.cell h4 (by show ¬ (pb = ob ∨ C ≤ pb); omega)

set_option maxRecDepth 100000 in
set_option maxHeartbeats 1000000 in
theorem yield_calls (C ob mb pb : Nat) (most : Int) (to : ByteArray) (acc : KV) (k v : ByteArray) (w : World) (h : Out C ob mb pb most to acc w) (hlen : acc.length ≤ 5000000000000) :
    Calls Try.prog 33 #[.agg #[.string k, .string v], ptr ob, ptr mb, ptr pb] w (YieldEnd C ob mb pb most to acc k v w) := by
  obtain ⟨vv, hob, ho⟩ := h.v
  obtain ⟨p, c, hv⟩ := slice_formB ho
  subst hv
  obtain ⟨n, hn⟩ : ∃ n, n = acc.length := ⟨_, rfl⟩
  rw [← hn] at hob ho hlen
  obtain ⟨v', w', ⟨p', c', hv'⟩, hr, hf', hc', hl', hid⟩ := yield_more (k := k) (v := v) hn hob ho h hlen _ rfl
  subst hv'
  have hobc : w.cell? ⟨ob, 0, none⟩ = some (.slice p n c) := cell_at hob 0
  have hm := h.hm
  have hp := h.hp
  have ha := Chg.alloc (fun x => x = ob ∨ C ≤ x) w (.cells #[.string k, .string v] 47 (0, 0))
  have Hst := Lib.hid (And.intro (h.chg (Chg.alloc (fun _ => False) w (.cells #[.string k, .string v] 47 (0, 0))) (fun _ _ h => h)) ha)
  have hol := lt_of_heap hob
  have hml := World.block_lt_of_cell? w _ hm
  have hpl := World.block_lt_of_cell? w _ hp
  simp only at hml hpl
  have Hn := Lib.hid hn
  have Hr := Lib.hid hr
  clear h ho hob hn ha hr
  unfold ptr
  cases hs : stop most to acc.length k
  · have Hf : Hid (YieldEnd C ob mb pb most to acc k v w (.returned (.bool true)) (w'.setCell ⟨ob, 0, none⟩ (.slice p' (n + 1) c'))) := ⟨by rw [hs]; rfl, by rw [hs]; exact hid.out.1, hid.out.2⟩
    have hs' := hs
    rw [← Hn.out] at hs'
    unfold stop at hs'
    simp only [Bool.or_eq_false_iff, decide_eq_false_iff_not, Bool.and_eq_false_iff] at hs'
    obtain ⟨h1, h2⟩ := hs'
    clear hs hid Hst
    cases he : notEmpty to
    · have he' : to.toList.isEmpty = true := by simpa [notEmpty] using he
      clear he h2
      go_enter Try.func33, Try.ntmps33
      go_wp2_with (at_builtin; refine Lib.wpList_append_run _ rfl _ _ _ _ rfl _ _ rfl rfl _ _ (Hr.out _) ?_)
      go_ret
      exact Hf.out
    · have he' : to.toList.isEmpty = false := by simpa [notEmpty] using he
      have hl : Op.bytesLess k.toList to.toList = true := by
        rcases h2 with h2 | h2
        · rw [he] at h2; cases h2
        · simpa [lt] using h2
      clear he h2
      go_enter Try.func33, Try.ntmps33
      go_wp2_with (at_builtin; refine Lib.wpList_append_run _ rfl _ _ _ _ rfl _ _ rfl rfl _ _ (Hr.out _) ?_)
      go_ret
      exact Hf.out
  · have Hf : Hid (YieldEnd C ob mb pb most to acc k v w (.returned (.bool false)) (w.alloc (.cells #[.string k, .string v] 47 (0, 0)))) := ⟨by rw [hs]; rfl, by rw [hs]; exact Hst.out.1, Hst.out.2⟩
    by_cases h1 : most ≤ (n : Int)
    · clear hs hid Hst Hr hf' hc' hl'
      go_enter Try.func33, Try.ntmps33
      go_wp2_with fail
      go_ret
      exact Hf.out
    · have hs' := hs
      rw [← Hn.out] at hs'
      unfold stop at hs'
      simp [h1] at hs'
      have he' : to.toList.isEmpty = false := by simpa [notEmpty] using hs'.1
      have hl : Op.bytesLess k.toList to.toList = false := by simpa [lt] using hs'.2
      clear hs hid Hst Hr hf' hc' hl' hs'
      go_enter Try.func33, Try.ntmps33
      go_wp2_with fail
      go_ret
      exact Hf.out

end Go.Proofs.Ytempbaflcbmcpaa
