/- The reference: rows laid anew. -/
import Derived.Test.YtempbaflcbmcpaaRef
import Derived.Deep.DeepAppendWide
namespace Go.Proofs.Ytempbaflcbmcpaa
open Go.RowKit

/-- What an append onto a row of the call's own comes to. -/
def App (B r : Nat) (v : Value) (ys : List Value) (src : Value) (w : World) : Prop :=
  ∃ p' c' w', (∀ ty, (Builtin.append_ #[22, 22] ty #[v, src]).run Try.prog w = .ok (.slice p' r c') w') ∧ w'.ownsRow B 47 2 (.slice p' r c') r ys ∧ Chg (B ≤ ·) w w'

theorem app_some {w : World} {B n m r c : Nat} {v : Value} {xs news : List Value} {a : Addr} (hown : w.ownsRow B 47 2 v n xs) (hr : r = n + m) (hl : news.length = m * 2) (hsrc : ∀ j u, news[j]? = some u → w.cell? (a.add j) = some u) (h1 : ∀ u ∈ news, u.oneCell' = true)
    (hnm : r ≤ 5000000000001) (hB : B ≤ w.heap.size) : App B r v (xs ++ news) (.slice (some a) m c) w := by
  subst hr
  obtain ⟨i0, hi0, hz0, hz1, hz2⟩ := info_parts Try.info47
  obtain ⟨v', w', hr, hown', hgr, -⟩ := run_append_own_wide (P := Try.prog) w B 22 22 47 i0 _ 2 32 Try.underlying22 hi0 hz0 hz1 hz2 rfl (by decide) v n xs hown a m c news hl hsrc h1 (by unfold maxLen; omega) (by omega) hB
  obtain ⟨p', c', hv'⟩ := slice_formB hown'
  subst hv'
  exact ⟨p', c', w', fun _ => hr, hown', Chg.of_grown hgr (fun x hx => (hown.lt x hx).1)⟩

theorem app_none {w : World} {B g n c : Nat} {xs : List Value} (hown : w.ownsRow B 47 2 (.slice (some ⟨g, 0, none⟩) n c) n xs) : App B n (.slice (some ⟨g, 0, none⟩) n c) xs (.slice none 0 0) w := by
  obtain ⟨i0, hi0, hz0, hz1, hz2⟩ := info_parts Try.info47
  obtain ⟨c1, hc1, hnc, -⟩ := ownsRow_form hown rfl
  cases hc1
  refine ⟨some ⟨g, 0, none⟩, c, w, fun ty => ?_, hown, Chg.refl _ _⟩
  simp [Builtin.append_, run_underlying Try.underlying22, sizeOf, typeInfo, hi0, Builtin.lenOf, hnc, Builtin.firstCells, loadCells, storeCells]

theorem empty_row (w : World) : (w.alloc (.cells #[] 47 (0, 0))).ownsRow w.heap.size 47 2 (.slice (some ⟨w.heap.size, 0, none⟩) 0 0) 0 [] :=
  ⟨rfl, .inr ⟨w.heap.size, 0, #[], rfl, Nat.le_refl _, heap_alloc_new w _, Nat.le_refl _, Nat.zero_le _, rfl, rfl⟩⟩

theorem leafCells_at {w : World} {g : Nat} {L : KV} {o n : Nat} (hcell : ∀ j u, (leafCells L)[j]? = some u → w.cell? ⟨g, j, none⟩ = some u) (K : KV) (hK : K = (L.drop o).take n) (j : Nat) (u : Value) (hj : (leafCells K)[j]? = some u) :
    w.cell? (Addr.add ⟨g, o * 2, none⟩ j) = some u := by
  rw [Addr.add_lit]
  refine hcell _ _ ?_
  have e : leafCells K = ((leafCells L).drop (o * 2)).take (n * 2) := by
    rw [hK]
    unfold leafCells
    rw [drop_cellsOf, take_cellsOf, List.map_take, List.map_drop]
  rw [e] at hj
  have hlt : j < n * 2 := by
    apply Decidable.byContradiction
    intro hc
    rw [List.getElem?_eq_none (by rw [List.length_take]; omega)] at hj
    cases hj
  rw [List.getElem?_take_of_lt hlt, List.getElem?_drop] at hj
  exact hj

theorem app_pair {w : World} {B n r : Nat} {xs : List Value} {v0 : Value} {k v : ByteArray} (hown : w.ownsRow B 47 2 v0 n xs) (hr : r = n + 1) (hnm : r ≤ 5000000000001) (hB : B ≤ w.heap.size) :
    ∃ p' c' w', (∀ ty, (Builtin.append_ #[22, 22] ty #[v0, .slice (some ⟨w.heap.size, 0, none⟩) 1 1]).run Try.prog (w.alloc (.cells #[.string k, .string v] 47 (0, 0))) = .ok (.slice p' r c') w') ∧ w'.ownsRow B 47 2 (.slice p' r c') r (xs ++ [.string k, .string v]) ∧ Chg (B ≤ ·) w w' := by
  have hc := Chg.alloc (fun _ => False) w (.cells #[.string k, .string v] 47 (0, 0))
  obtain ⟨p', c', w', h1, h2, h3⟩ := app_some (a := ⟨w.heap.size, 0, none⟩) (c := 1) (news := [.string k, .string v]) (ownsRow_chg hc hown (fun _ _ h => h)) hr rfl (fun j u hj => by
    rw [Addr.add_lit, Nat.zero_add, cell_at (heap_alloc_new w _)]
    simpa using hj) (by intro u hu; simp at hu; rcases hu with rfl | rfl <;> rfl) hnm (by simp; omega)
  exact ⟨p', c', w', h1, h2, (hc.mono (fun _ _ h => h.elim)).trans h3 (fun _ _ h => h)⟩

def RefPost (rb : Nat) (R : List Nat) (_L L' : KV) (b : Bool) (w : World) (e : Ending) (w' : World) : Prop :=
  e = .returned (.bool b) ∧ ∃ R', RefIs w' rb R' L' ∧ (∀ x ∈ R', x ∈ R ∨ w.heap.size ≤ x) ∧ Chg (· ∈ R) w w'

/-- The reference holds a new row. -/
theorem ref_new {w w1 w4 : World} {rb n : Nat} {R : List Nat} {L L' : KV} {b : Bool} {p : Option Addr} {c : Nat} {v : Value} (hR : R = rb :: v.ownBlock.toList) (hn : n = L'.length) (hb : w.heap[rb]? = some (.cells #[v] 37 (0, 0))) (hc1 : Chg (fun _ => False) w w1) (hc : Chg (w1.heap.size ≤ ·) w1 w4)
    (ho : w4.ownsRow w1.heap.size 47 2 (.slice p n c) n (leafCells L')) :
    w4.frozen? ⟨rb, 0, none⟩ = false ∧ rb < w4.heap.size ∧ w4.cell? ⟨rb, 0, none⟩ = some v ∧ Hid (RefPost rb R L L' b w (.returned (.bool b)) (w4.setCell ⟨rb, 0, none⟩ (.slice p n c))) := by
  have hrl : rb < w.heap.size := lt_of_heap hb
  have hrl1 : rb < w1.heap.size := Nat.lt_of_lt_of_le hrl hc1.size
  have hb4 := hc.at (hc1.at hb (fun h => h)) (by omega)
  have c4 : Chg (· = rb) w4 (w4.setCell ⟨rb, 0, none⟩ (.slice p n c)) := Chg.setCell (S := (· = rb)) (p := ⟨rb, 0, none⟩) (fun _ => rfl) _
  refine ⟨free_at hb4 0, lt_of_heap hb4, cell_at hb4 0, rfl, rb :: (Value.slice p n c).ownBlock.toList, ⟨.slice p n c, heap_setCell w4 rb 0 _ 37 _ hb4, ?_, rfl, fun h => ?_⟩, fun x hx => ?_, ?_⟩
  · subst hn
    exact ownsRow_chg c4 (ownsRow_le ho (Nat.zero_le _)) (fun k hk e => by have := (ho.lt k hk).1; omega)
  · have := (ho.lt rb (by simpa using h)).1; omega
  · rcases List.mem_cons.1 hx with rfl | hx
    · exact .inl (by rw [hR]; simp)
    · have := (ho.lt x (by simpa using hx)).1
      have := hc1.size
      exact .inr (by omega)
  · refine ((hc1.trans (T := (w1.heap.size ≤ ·)) hc (fun x hx h => ?_)).mono (fun _ _ h => h.elim)).trans c4 (fun x _ e => ?_)
    · have := hc1.size; omega
    · rw [e, hR]; simp

/-- The reference's value set where the key is. -/
theorem ref_found {w w1 : World} {rb n g c i : Nat} {R : List Nat} {L : KV} {k v : ByteArray} (hR : R = rb :: (Value.slice (some ⟨g, 0, none⟩) n c).ownBlock.toList) (hrn : rb ∉ (Value.slice (some ⟨g, 0, none⟩) n c).ownBlock.toList) (hn : n = L.length) (hb : w.heap[rb]? = some (.cells #[.slice (some ⟨g, 0, none⟩) n c] 37 (0, 0)))
    (ho : w.ownsRow 0 47 2 (.slice (some ⟨g, 0, none⟩) n c) n (leafCells L)) (hc1 : Chg (fun _ => False) w w1) (hs : Srt L) (hp : AtPos L k i true) :
    RefPost rb R L (ins k v L) true w (.returned (.bool true)) (w1.setCell ⟨g, i * 2 + 1, none⟩ (.string v)) := by
  obtain ⟨hi, he⟩ := hp.yes rfl
  have ho1 := ownsRow_chg hc1 ho (fun _ _ h => h)
  have hgr : g ≠ rb := fun e => hrn (by simp [Value.ownBlock, e])
  have c1 : Chg (· = g) w1 (w1.setCell ⟨g, i * 2 + 1, none⟩ (.string v)) := Chg.setCell (S := (· = g)) (p := ⟨g, i * 2 + 1, none⟩) (fun _ => rfl) _
  have hins := hp.pos.ins_found v hs hi he
  refine ⟨rfl, R, ⟨.slice (some ⟨g, 0, none⟩) n c, c1.at (hc1.at hb (fun h => h)) (fun e => hgr e.symm), ?_, hR, hrn⟩, fun x hx => .inl hx, ?_⟩
  · have hset := ownsRow_set (j := i * 2 + 1) ho1 (by rw [hn]; omega) (.string v)
    rw [leafCells_set L i hi v, he, ← hins] at hset
    have : (ins k v L).length = n := by rw [hn, (length_ins k v L hs).2 (by rw [hp.pos.get_found hs hi he]; simp)]
    rw [this]
    exact hset
  · refine (hc1.mono (fun _ _ h => h.elim)).trans c1 (fun x _ e => ?_)
    rw [e, hR]; simp [Value.ownBlock]

theorem ins_len {k v : ByteArray} {L : KV} {i : Nat} (hs : Srt L) (hp : AtPos L k i false) : (ins k v L).length = L.length + 1 :=
  (length_ins k v L hs).1 (hp.pos.get_not hs (hp.no rfl))


end Go.Proofs.Ytempbaflcbmcpaa
