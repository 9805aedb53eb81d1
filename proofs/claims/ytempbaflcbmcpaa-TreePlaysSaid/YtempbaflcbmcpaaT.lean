/- Trees in memory. -/
import Derived.Test.YtempbaflcbmcpaaA
import Derived.Test.YtempbaflcbmcpaaN
namespace Go.Proofs.Ytempbaflcbmcpaa
open Go.RowKit

/-- A row's cells: a key and a value each. -/
def cellsOf (l : List (ByteArray × Value)) : List Value := l.flatMap fun x => [.string x.1, x.2]

theorem cellsOf_nil : cellsOf [] = [] := rfl
theorem cellsOf_cons (x : ByteArray × Value) (l) : cellsOf (x :: l) = .string x.1 :: x.2 :: cellsOf l := by simp [cellsOf]
theorem cellsOf_append (a b) : cellsOf (a ++ b) = cellsOf a ++ cellsOf b := by simp [cellsOf]
theorem length_cellsOf : ∀ l, (cellsOf l).length = l.length * 2
  | [] => rfl
  | x :: l => by rw [cellsOf_cons, List.length_cons, List.length_cons, length_cellsOf l, List.length_cons]; omega
theorem take_cellsOf : ∀ (l) (i : Nat), (cellsOf l).take (i * 2) = cellsOf (l.take i)
  | [], i => by simp [cellsOf]
  | x :: l, 0 => by simp [cellsOf]
  | x :: l, i + 1 => by
    rw [cellsOf_cons, show (i + 1) * 2 = i * 2 + 1 + 1 by omega, List.take_succ_cons, List.take_succ_cons, take_cellsOf l i, List.take_succ_cons, cellsOf_cons]
theorem drop_cellsOf : ∀ (l) (i : Nat), (cellsOf l).drop (i * 2) = cellsOf (l.drop i)
  | [], i => by simp [cellsOf]
  | x :: l, 0 => by simp
  | x :: l, i + 1 => by
    rw [cellsOf_cons, show (i + 1) * 2 = i * 2 + 1 + 1 by omega, List.drop_succ_cons, List.drop_succ_cons, drop_cellsOf l i, List.drop_succ_cons]
theorem key_cellsOf (l : List (ByteArray × Value)) (i : Nat) (h : i < l.length) : (cellsOf l)[i * 2]? = some (.string l[i].1) := by
  have e := drop_cellsOf l i
  rw [List.drop_eq_getElem_cons h, cellsOf_cons] at e
  have : ((cellsOf l).drop (i * 2))[0]? = some (.string l[i].1) := by rw [e]; rfl
  rwa [List.getElem?_drop, Nat.add_zero] at this
theorem val_cellsOf (l : List (ByteArray × Value)) (i : Nat) (h : i < l.length) : (cellsOf l)[i * 2 + 1]? = some l[i].2 := by
  have e := drop_cellsOf l i
  rw [List.drop_eq_getElem_cons h, cellsOf_cons] at e
  have : ((cellsOf l).drop (i * 2))[1]? = some l[i].2 := by rw [e]; rfl
  rwa [List.getElem?_drop] at this
theorem ins_cellsOf (l : List (ByteArray × Value)) (i : Nat) (k : ByteArray) (v : Value) : insCells (cellsOf l) i (.string k) v = cellsOf (l.take i ++ (k, v) :: l.drop i) := by
  unfold insCells; rw [take_cellsOf, drop_cellsOf, cellsOf_append, cellsOf_cons]
theorem del_cellsOf (l : List (ByteArray × Value)) (i : Nat) : delCells (cellsOf l) i = cellsOf (l.take i ++ l.drop (i + 1)) := by
  unfold delCells; rw [take_cellsOf, drop_cellsOf, cellsOf_append]
theorem keys_cellsOf (l : List (ByteArray × Value)) : KeysIn (cellsOf l) l.length := fun i h => ⟨_, key_cellsOf l i h⟩
theorem keyAt_cellsOf (l : List (ByteArray × Value)) (i : Nat) (h : i < l.length) : keyAt (cellsOf l) i = l[i].1.toList := by simp [keyAt, key_cellsOf l i h]
theorem one_cellsOf (l : List (ByteArray × Value)) (h : ∀ x ∈ l, x.2.oneCell' = true) : ∀ v ∈ cellsOf l, v.oneCell' = true := by
  intro v hv
  unfold cellsOf at hv
  rw [List.mem_flatMap] at hv
  obtain ⟨x, hx, hv⟩ := hv
  simp at hv
  rcases hv with rfl | rfl
  · rfl
  · exact h x hx
theorem set_key_cellsOf (A B : List (ByteArray × Value)) (k k' : ByteArray) (v : Value) : (cellsOf (A ++ (k, v) :: B)).set (A.length * 2) (.string k') = cellsOf (A ++ (k', v) :: B) := by
  rw [cellsOf_append, cellsOf_append, cellsOf_cons, cellsOf_cons, ← length_cellsOf A, List.set_append_right _ _ (Nat.le_refl _), Nat.sub_self]; rfl
theorem set_val_cellsOf (A B : List (ByteArray × Value)) (k : ByteArray) (v v' : Value) : (cellsOf (A ++ (k, v) :: B)).set (A.length * 2 + 1) v' = cellsOf (A ++ (k, v') :: B) := by
  rw [cellsOf_append, cellsOf_append, cellsOf_cons, cellsOf_cons, ← length_cellsOf A, List.set_append_right _ _ (by omega), Nat.add_sub_cancel_left]; rfl

/-- A store into a row of one's own. -/
theorem ownsRow_set {w : World} {B e size n g cap j : Nat} {xs : List Value} (h : w.ownsRow B e size (.slice (some ⟨g, 0, none⟩) n cap) n xs) (_hj : j < n * size) (u : Value) :
    (w.setCell ⟨g, j, none⟩ u).ownsRow B e size (.slice (some ⟨g, 0, none⟩) n cap) n (xs.set j u) := by
  rcases h.2 with ⟨h0, _⟩ | ⟨g', cap', cur, h0, hb, hg, h1, h2, h3, h4⟩
  · cases h0
  · cases h0
    refine ⟨by rw [List.length_set]; exact h.1, .inr ⟨g, cap, cur.setIfInBounds j u, rfl, hb, heap_setCell w g j cur e u hg, h1, h2, by rw [Array.size_setIfInBounds]; exact h3, ?_⟩⟩
    rw [Array.toList_setIfInBounds, List.take_set, h4]

structure Leaf where
  b : Nat
  v : Value
  kv : KV
structure Inner (α : Type) where
  b : Nat
  v : Value
  ks : List (ByteArray × α)
/-- A tree of depth d, with the places of its blocks. -/
def AT : Nat → Type
  | 0 => Leaf
  | d + 1 => Inner (AT d)

def AT.b : (d : Nat) → AT d → Nat
  | 0, (t : Leaf) => t.b
  | _ + 1, (t : Inner _) => t.b
def AT.toL : (d : Nat) → AT d → KV
  | 0, (t : Leaf) => t.kv
  | d + 1, (t : Inner (AT d)) => t.ks.flatMap fun x => AT.toL d x.2
def AT.sz : (d : Nat) → AT d → Nat
  | 0, (t : Leaf) => t.kv.length
  | d + 1, t => (t : Inner (AT d)).ks.length
def AT.blocks : (d : Nat) → AT d → List Nat
  | 0, (t : Leaf) => t.b :: t.v.ownBlock.toList
  | d + 1, (t : Inner (AT d)) => t.b :: (t.v.ownBlock.toList ++ t.ks.flatMap fun x => AT.blocks d x.2)
def leafCells (kv : KV) : List Value := cellsOf (kv.map fun x => (x.1, .string x.2))
def ptr (b : Nat) : Value := .pointer (some ⟨b, 0, none⟩)
def kidCells (d : Nat) (ks : List (ByteArray × AT d)) : List Value := cellsOf (ks.map fun x => (x.1, ptr (AT.b d x.2)))
def Lies (w : World) : (d : Nat) → AT d → Prop
  | 0, (t : Leaf) => w.heap[t.b]? = some (.cells #[t.v, .slice none 0 0] 62 (0, 0)) ∧ w.ownsRow 0 65 2 t.v t.kv.length (leafCells t.kv)
  | d + 1, (t : Inner (AT d)) => w.heap[t.b]? = some (.cells #[.slice none 0 0, t.v] 62 (0, 0)) ∧ w.ownsRow 0 54 2 t.v t.ks.length (kidCells d t.ks) ∧ ∀ x ∈ t.ks, Lies w d x.2
def segsOf (d : Nat) (ks : List (ByteArray × AT d)) : List (ByteArray × KV) := ks.map fun x => (x.1, AT.toL d x.2)
def WF (lo : Nat) : (d : Nat) → AT d → Prop
  | 0, (t : Leaf) => lo ≤ t.kv.length ∧ t.kv.length ≤ 4
  | d + 1, (t : Inner (AT d)) => lo ≤ t.ks.length ∧ t.ks.length ≤ 4 ∧ Keyed (segsOf d t.ks) ∧ ∀ x ∈ t.ks, WF 2 d x.2

theorem toL_inner (d : Nat) (t : Inner (AT d)) : AT.toL (d + 1) t = segs (segsOf d t.ks) := by
  simp [AT.toL, segs, segsOf, List.flatMap_map]

/-- Whatever leaves a tree's blocks leaves the tree. -/
theorem Lies.chg {S : Nat → Prop} {w w' : World} (h : Chg S w w') : ∀ (d : Nat) (t : AT d), Lies w d t → (∀ k ∈ AT.blocks d t, ¬ S k) → Lies w' d t
  | 0, t, hl, hn => by
    refine ⟨h.at hl.1 (hn _ (by simp [AT.blocks])), ownsRow_chg h hl.2 (fun k hk => hn k ?_)⟩
    simp only [AT.blocks, List.mem_cons]; right; rw [hk]; simp
  | d + 1, t, hl, hn => by
    refine ⟨h.at hl.1 (hn _ (by simp [AT.blocks])), ownsRow_chg h hl.2.1 (fun k hk => hn k ?_), fun x hx => Lies.chg h d x.2 (hl.2.2 x hx) (fun k hk => hn k ?_)⟩
    · simp only [AT.blocks, List.mem_cons, List.mem_append]; right; left; rw [hk]; simp
    · simp only [AT.blocks, List.mem_cons, List.mem_append, List.mem_flatMap]; right; right; exact ⟨x, hx, hk⟩
theorem Lies.lt {w : World} : ∀ (d : Nat) (t : AT d), Lies w d t → ∀ k ∈ AT.blocks d t, k < w.heap.size
  | 0, t, hl, k, hk => by
    simp only [AT.blocks, List.mem_cons] at hk
    rcases hk with rfl | hk
    · exact lt_of_heap hl.1
    · exact (hl.2.lt k (by simpa using hk)).2
  | d + 1, t, hl, k, hk => by
    simp only [AT.blocks, List.mem_cons, List.mem_append, List.mem_flatMap] at hk
    rcases hk with rfl | hk | ⟨x, hx, hk⟩
    · exact lt_of_heap hl.1
    · exact (hl.2.1.lt k (by simpa using hk)).2
    · exact Lies.lt d x.2 (hl.2.2 x hx) k hk
theorem b_mem (d : Nat) (t : AT d) : AT.b d t ∈ AT.blocks d t := by
  cases d <;> simp [AT.b, AT.blocks]

theorem nodup_replace {A B C B' : List Nat} {N : Nat} (h : (A ++ (B ++ C)).Nodup) (hA : ∀ x ∈ A, x < N) (hC : ∀ x ∈ C, x < N) (hB' : B'.Nodup) (hsub : ∀ x ∈ B', x ∈ B ∨ N ≤ x) : (A ++ (B' ++ C)).Nodup := by
  rw [List.nodup_append] at h ⊢
  obtain ⟨h1, h2, h3⟩ := h
  rw [List.nodup_append] at h2 ⊢
  obtain ⟨h4, h5, h6⟩ := h2
  refine ⟨h1, ⟨hB', h5, ?_⟩, ?_⟩
  · intro x hx y hy e
    subst e
    rcases hsub x hx with hb | hn
    · exact h6 x hb x hy rfl
    · have := hC x hy; omega
  · intro x hx y hy e
    subst e
    rcases List.mem_append.1 hy with hy | hy
    · rcases hsub x hy with hb | hn
      · exact h3 x hx x (by simp [hb]) rfl
      · have := hA x hx; omega
    · exact h3 x hx x (by simp [hy]) rfl

end Go.Proofs.Ytempbaflcbmcpaa
