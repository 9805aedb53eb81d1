/- (*node).first, (*node).put. -/
import Derived.Test.YtempbaflcbmcpaaT
import Derived.Test.YtempbaflcbmcpaaF
import Derived.Test.YtempbaflcbmcpaaP23
import Derived.Test.YtempbaflcbmcpaaI42
import Derived.Test.YtempbaflcbmcpaaI41
import Derived.Test.YtempbaflcbmcpaaH43
import Derived.Test.YtempbaflcbmcpaaH44
namespace Go.Proofs.Ytempbaflcbmcpaa
open Go.RowKit

def ptrOf (d : Nat) (r : Option (AT d)) : Value := .pointer (r.map fun r => ⟨AT.b d r, 0, none⟩)
def restL (d : Nat) : Option (AT d) → KV
  | none => []
  | some r => AT.toL d r
def restB (d : Nat) : Option (AT d) → List Nat
  | none => []
  | some r => AT.blocks d r

def PutEnd (lo d : Nat) (t : AT d) (k v : ByteArray) (w : World) (en : Ending) (w' : World) : Prop :=
  ∃ (t' : AT d) (r : Option (AT d)), en = .returned (.tuple #[ptrOf d r, .bool (get k (AT.toL d t)).isSome]) ∧
    AT.b d t' = AT.b d t ∧ Lies w' d t' ∧ WF lo d t' ∧ (∀ x, r = some x → Lies w' d x ∧ WF 2 d x) ∧
    AT.toL d t' ++ restL d r = ins k v (AT.toL d t) ∧ (AT.blocks d t' ++ restB d r).Nodup ∧ (∀ x ∈ AT.blocks d t' ++ restB d r, x ∈ AT.blocks d t ∨ w.heap.size ≤ x) ∧ Chg (· ∈ AT.blocks d t) w w'

def headOf : KV → ByteArray
  | [] => ⟨#[]⟩
  | x :: _ => x.1
def headKey (d : Nat) (t : AT d) : ByteArray := headOf (AT.toL d t)

theorem row_form {w : World} {e n : Nat} {v : Value} {xs : List Value} (h : w.ownsRow 0 e 2 v n xs) (hn : 0 < n) : ∃ g cap, v = .slice (some ⟨g, 0, none⟩) n cap ∧ n ≤ cap ∧ cap ≤ maxLen ∧ ∀ (j : Nat) (u : Value), xs[j]? = some u → w.cell? ⟨g, j, none⟩ = some u := by
  rcases h.2 with ⟨rfl, h0⟩ | ⟨g, cap, cur, rfl, _, _, h1, h2, _⟩
  · omega
  · refine ⟨g, cap, rfl, h1, h2, fun j u hj => ?_⟩
    have := h.cells (g := g) rfl j u hj
    rwa [Addr.add_lit, Nat.zero_add] at this

theorem first_leafT (w : World) (t : Leaf) (hl : Lies w 0 t) (h1 : 0 < t.kv.length) :
    Calls Try.prog 29 #[ptr t.b] w fun e w' => e = .returned (.string (headOf t.kv)) ∧ w = w' := by
  obtain ⟨hb, ho⟩ := hl
  obtain ⟨g, cap, hv, hnc, hcm, hcell⟩ := row_form ho h1
  have hkey : headOf t.kv = t.kv[0].1 := by
    obtain ⟨b, v, kv⟩ := t
    cases kv with
    | nil => cases h1
    | cons x r => rfl
  have hk0 : w.cell? ⟨g, 0, none⟩ = some (.string t.kv[0].1) := hcell 0 _ (by
    have := key_cellsOf (t.kv.map fun x => (x.1, .string x.2)) 0 (by simpa using h1)
    simpa [leafCells] using this)
  have h0 := cell_at hb 0
  have h1' := cell_at hb 1
  rw [hv] at h0
  rw [hkey]
  exact first_leaf w _ g _ cap none 0 _ h0 h1' h1 hk0

theorem first_innerT (w : World) (d : Nat) (t : Inner (AT d)) (hl : Lies w (d + 1) t) (h1 : 0 < t.ks.length) (hK : Keyed (segsOf d t.ks)) :
    Calls Try.prog 29 #[ptr t.b] w fun e w' => e = .returned (.string (headOf (segs (segsOf d t.ks)))) ∧ w = w' := by
  obtain ⟨hb, ho, -⟩ := hl
  obtain ⟨g, cap, hv, hnc, hcm, hcell⟩ := row_form ho h1
  have hkey : headOf (segs (segsOf d t.ks)) = t.ks[0].1 := by
    obtain ⟨b, v, ks⟩ := t
    cases ks with
    | nil => cases h1
    | cons x r =>
      obtain ⟨v, r', hx⟩ := hK (x.1, AT.toL d x.2) (by simp [segsOf])
      simp only at hx
      simp [segsOf, segs, hx, headOf]
  have hk0 : w.cell? ⟨g, 0, none⟩ = some (.string t.ks[0].1) := hcell 0 _ (by
    have := key_cellsOf (t.ks.map fun x => (x.1, ptr (AT.b d x.2))) 0 (by simpa using h1)
    simpa [kidCells] using this)
  have h1' := cell_at hb 1
  rw [hv] at h1'
  rw [hkey]
  exact first_inner w _ g t.ks.length cap _ h1' h1 hk0

theorem first_calls (w : World) (d : Nat) (t : AT d) (hl : Lies w d t) (hw : WF 1 d t) :
    Calls Try.prog 29 #[ptr (AT.b d t)] w fun e w' => e = .returned (.string (headKey d t)) ∧ w = w' := by
  cases d with
  | zero => exact first_leafT w t hl hw.1
  | succ d =>
    have e : headKey (d + 1) t = headOf (segs (segsOf d (t : Inner (AT d)).ks)) := congrArg headOf (toL_inner d t)
    rw [e]
    exact first_innerT w d t hl hw.1 hw.2.2.1

theorem leaf_pos {kv : KV} (hs : Srt kv) {k : ByteArray} {i : Nat} (h : SearchAt (fun i => ! Op.bytesLess (keyAt (leafCells kv) i) k.toList) kv.length i i) : Pos kv k i := by
  have hka : ∀ j (hj : j < kv.length), keyAt (leafCells kv) j = kv[j].1.toList := fun j hj => by
    have := keyAt_cellsOf (kv.map fun x => (x.1, .string x.2)) j (by simpa using hj)
    simpa [leafCells] using this
  refine pos_of_search hs k i h.2.1 (fun hj h0 => ?_) (fun hj => ?_)
  · have := h.2.2.1 h0
    simp only [hka _ hj] at this
    simpa [lt] using this
  · have := h.2.2.2 hj
    simp only [hka _ hj] at this
    simpa [lt] using this

theorem slice_form {w : World} {e n : Nat} {v : Value} {xs : List Value} (h : w.ownsRow 0 e 2 v n xs) : ∃ p c, v = .slice p n c := by
  rcases h.2 with ⟨rfl, rfl⟩ | ⟨g, cap, cur, rfl, _⟩
  · exact ⟨_, _, rfl⟩
  · exact ⟨_, _, rfl⟩

theorem leafCells_one (kv : KV) : ∀ v ∈ leafCells kv, v.oneCell' = true := one_cellsOf _ (by intro x hx; simp at hx; obtain ⟨a, b, -, rfl⟩ := hx; rfl)
theorem leafCells_key (kv : KV) (i : Nat) (h : i < kv.length) : (leafCells kv)[i * 2]? = some (.string kv[i].1) := by
  have := key_cellsOf (kv.map fun x => (x.1, .string x.2)) i (by simpa using h)
  simpa [leafCells] using this
theorem leafCells_val (kv : KV) (i : Nat) (h : i < kv.length) : (leafCells kv)[i * 2 + 1]? = some (.string kv[i].2) := by
  have := val_cellsOf (kv.map fun x => (x.1, .string x.2)) i (by simpa using h)
  simpa [leafCells] using this
theorem length_leafCells (kv : KV) : (leafCells kv).length = kv.length * 2 := by simp [leafCells, length_cellsOf]
theorem leafCells_set (kv : KV) (i : Nat) (h : i < kv.length) (v : ByteArray) : (leafCells kv).set (i * 2 + 1) (.string v) = leafCells (kv.take i ++ (kv[i].1, v) :: kv.drop (i + 1)) := by
  have e : leafCells kv = leafCells (kv.take i ++ kv[i] :: kv.drop (i + 1)) := by rw [← List.drop_eq_getElem_cons h, List.take_append_drop]
  rw [e]
  unfold leafCells
  rw [List.map_append, List.map_cons, List.map_append, List.map_cons]
  have := set_val_cellsOf ((kv.take i).map fun x => (x.1, .string x.2)) ((kv.drop (i + 1)).map fun x => (x.1, .string x.2)) kv[i].1 (.string kv[i].2) (.string v)
  rw [List.length_map, List.length_take, Nat.min_eq_left (by omega)] at this
  exact this
theorem leafCells_ins (kv : KV) (i : Nat) (k v : ByteArray) : insCells (leafCells kv) i (.string k) (.string v) = leafCells (kv.take i ++ (k, v) :: kv.drop i) := by
  unfold leafCells
  rw [ins_cellsOf, List.map_append, List.map_cons, List.map_take, List.map_drop]

theorem put_leaf_found {w w1 : World} {lo b g n cap i : Nat} {kv : KV} {k v : ByteArray} (hn : n = kv.length)
    (hb : w1.heap[b]? = some (.cells #[.slice (some ⟨g, 0, none⟩) n cap, .slice none 0 0] 62 (0, 0))) (ho : w1.ownsRow 0 65 2 (.slice (some ⟨g, 0, none⟩) n cap) n (leafCells kv)) (hnd : b ≠ g)
    (hw : lo ≤ n ∧ n ≤ 4) (hs : Srt kv) (hp : Pos kv k i) (hi : i < kv.length) (he : kv[i].1 = k) (hb1 : Below w.heap.size w w1) :
    PutEnd lo 0 (⟨b, .slice (some ⟨g, 0, none⟩) n cap, kv⟩ : Leaf) k v w (.returned (.tuple #[.pointer none, .bool true])) (w1.setCell ⟨g, i * 2 + 1, none⟩ (.string v)) := by
  subst hn
  have hch : Chg (· = g) w1 (w1.setCell ⟨g, i * 2 + 1, none⟩ (.string v)) := Chg.setCell (S := (· = g)) (p := ⟨g, i * 2 + 1, none⟩) (fun _ => rfl) _
  have hins : kv.take i ++ (kv[i].1, v) :: kv.drop (i + 1) = ins k v kv := by rw [hp.ins_found v hs hi he, he]
  have hlen : (ins k v kv).length = kv.length := (length_ins k v kv hs).2 (by rw [hp.get_found hs hi he]; simp)
  have hset := ownsRow_set ho (j := i * 2 + 1) (by omega) (.string v)
  rw [leafCells_set kv i hi v, hins] at hset
  refine ⟨(⟨b, .slice (some ⟨g, 0, none⟩) kv.length cap, ins k v kv⟩ : Leaf), none, ?_, rfl, ⟨hch.at hb (fun e => hnd e), ?_⟩, ?_, by simp, ?_, ?_, ?_, ?_⟩
  · show Ending.returned (.tuple #[.pointer none, .bool true]) = .returned (.tuple #[.pointer none, .bool (get k kv).isSome])
    rw [hp.get_found hs hi he]; rfl
  · show World.ownsRow _ 0 65 2 _ (ins k v kv).length _
    rw [hlen]; exact hset
  · show lo ≤ (ins k v kv).length ∧ (ins k v kv).length ≤ 4
    rw [hlen]; exact hw
  · show ins k v kv ++ [] = ins k v kv
    simp
  · show ([b, g] ++ []).Nodup
    simp [hnd]
  · intro x hx; exact .inl (by simpa [AT.blocks, restB] using hx)
  · exact ((below_chg hb1).mono (fun _ _ h => h.elim)).trans hch (fun k _ h => by show k ∈ [b, g]; simp [show k = g from h])

theorem put_leaf_in {w w3 : World} {lo b i : Nat} {tv v' : Value} {kv : KV} {k v : ByteArray}
    (hb : w3.heap[b]? = some (.cells #[v', .slice none 0 0] 62 (0, 0))) (ho : w3.ownsRow 0 65 2 v' (kv.length + 1) (insCells (leafCells kv) i (.string k) (.string v))) (hnd : ∀ g, v'.ownBlock = some g → g ≠ b)
    (hnew : ∀ g, v'.ownBlock = some g → tv.ownBlock = some g ∨ w.heap.size ≤ g)
    (hw : lo ≤ kv.length ∧ kv.length < 4) (hs : Srt kv) (hp : Pos kv k i) (he : ∀ h : i < kv.length, kv[i].1 ≠ k) (hch : Chg (fun x => x = b ∨ tv.ownBlock = some x) w w3) :
    PutEnd lo 0 (⟨b, tv, kv⟩ : Leaf) k v w (.returned (.tuple #[.pointer none, .bool false])) w3 := by
  have hins := hp.ins_not v hs he
  have hlen : (ins k v kv).length = kv.length + 1 := (length_ins k v kv hs).1 (hp.get_not hs he)
  rw [leafCells_ins, ← hins] at ho
  refine ⟨(⟨b, v', ins k v kv⟩ : Leaf), none, ?_, rfl, ⟨hb, ?_⟩, ?_, by simp, ?_, ?_, ?_, ?_⟩
  · show Ending.returned (.tuple #[.pointer none, .bool false]) = .returned (.tuple #[.pointer none, .bool (get k kv).isSome])
    rw [hp.get_not hs he]; rfl
  · show World.ownsRow _ 0 65 2 _ (ins k v kv).length _
    rw [hlen]; exact ho
  · show lo ≤ (ins k v kv).length ∧ (ins k v kv).length ≤ 4
    omega
  · show ins k v kv ++ [] = ins k v kv
    simp
  · show ((b :: v'.ownBlock.toList) ++ []).Nodup
    cases hv : v'.ownBlock with
    | none => simp
    | some g => simp [(hnd g hv).symm]
  · intro x hx
    replace hx : x ∈ (b :: v'.ownBlock.toList) ++ [] := hx
    simp only [List.append_nil, List.mem_cons, Option.mem_toList] at hx
    rcases hx with rfl | hx
    · exact .inl (by show x ∈ x :: tv.ownBlock.toList; simp)
    · rcases hnew x hx with h | h
      · exact .inl (by show x ∈ b :: tv.ownBlock.toList; simp [h])
      · exact .inr h
  · exact hch.mono (fun x _ h => by show x ∈ b :: tv.ownBlock.toList; simpa using h)

theorem put_leaf_split {w w5 : World} {lo b N k1 k2 i : Nat} {tv v1 v2 : Value} {kv : KV} {k v : ByteArray}
    (hb : w5.heap[b]? = some (.cells #[v1, .slice none 0 0] 62 (0, 0))) (hN : w5.heap[N]? = some (.cells #[v2, .slice none 0 0] 62 (0, 0)))
    (ho1 : w5.ownsRow 0 65 2 v1 2 ((insCells (leafCells kv) i (.string k) (.string v)).take 4)) (ho2 : w5.ownsRow 0 65 2 v2 3 ((insCells (leafCells kv) i (.string k) (.string v)).drop 4))
    (hv1 : v1.ownBlock = some k1) (hv2 : v2.ownBlock = some k2) (hk1 : w.heap.size ≤ k1) (hk2 : w.heap.size ≤ k2) (h12 : k1 ≠ k2) (hN1 : N ≠ k1) (hN2 : N ≠ k2) (hNs : w.heap.size ≤ N) (hbs : b < w.heap.size)
    (hlo : lo ≤ 2) (hw : kv.length = 4) (hs : Srt kv) (hp : Pos kv k i) (he : ∀ h : i < kv.length, kv[i].1 ≠ k) (hch : Chg (fun x => x = b ∨ tv.ownBlock = some x) w w5) :
    PutEnd lo 0 (⟨b, tv, kv⟩ : Leaf) k v w (.returned (.tuple #[.pointer (some ⟨N, 0, none⟩), .bool false])) w5 := by
  have hins := hp.ins_not v hs he
  have hlen : (ins k v kv).length = 5 := by rw [(length_ins k v kv hs).1 (hp.get_not hs he), hw]
  rw [leafCells_ins, ← hins] at ho1 ho2
  have e1 : (leafCells (ins k v kv)).take 4 = leafCells ((ins k v kv).take 2) := by
    unfold leafCells; rw [List.map_take]; exact take_cellsOf _ 2
  have e2 : (leafCells (ins k v kv)).drop 4 = leafCells ((ins k v kv).drop 2) := by
    unfold leafCells; rw [List.map_drop]; exact drop_cellsOf _ 2
  rw [e1] at ho1
  rw [e2] at ho2
  have l1 : ((ins k v kv).take 2).length = 2 := by rw [List.length_take, hlen]; rfl
  have l2 : ((ins k v kv).drop 2).length = 3 := by rw [List.length_drop, hlen]
  refine ⟨(⟨b, v1, (ins k v kv).take 2⟩ : Leaf), some (⟨N, v2, (ins k v kv).drop 2⟩ : Leaf), ?_, rfl, ⟨hb, ?_⟩, ?_, ?_, ?_, ?_, ?_, ?_⟩
  · show Ending.returned (.tuple #[.pointer (some ⟨N, 0, none⟩), .bool false]) = .returned (.tuple #[.pointer (some ⟨N, 0, none⟩), .bool (get k kv).isSome])
    rw [hp.get_not hs he]; rfl
  · show World.ownsRow _ 0 65 2 _ ((ins k v kv).take 2).length _
    rw [l1]; exact ho1
  · show lo ≤ ((ins k v kv).take 2).length ∧ ((ins k v kv).take 2).length ≤ 4
    omega
  · intro x hx
    cases hx
    refine ⟨⟨hN, ?_⟩, ?_⟩
    · show World.ownsRow _ 0 65 2 _ ((ins k v kv).drop 2).length _
      rw [l2]; exact ho2
    · show 2 ≤ ((ins k v kv).drop 2).length ∧ ((ins k v kv).drop 2).length ≤ 4
      omega
  · show (ins k v kv).take 2 ++ (ins k v kv).drop 2 = ins k v kv
    rw [List.take_append_drop]
  · show ((b :: v1.ownBlock.toList) ++ (N :: v2.ownBlock.toList)).Nodup
    rw [hv1, hv2]
    simp
    omega
  · intro x hx
    replace hx : x ∈ (b :: v1.ownBlock.toList) ++ (N :: v2.ownBlock.toList) := hx
    rw [hv1, hv2] at hx
    simp at hx
    rcases hx with rfl | rfl | rfl | rfl
    · exact .inl (by show x ∈ x :: tv.ownBlock.toList; simp)
    · exact .inr hk1
    · exact .inr hNs
    · exact .inr hk2
  · exact hch.mono (fun x _ h => by show x ∈ b :: tv.ownBlock.toList; simpa using h)

end Go.Proofs.Ytempbaflcbmcpaa
