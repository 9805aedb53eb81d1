/- The rows' element types; what an insertion leaves. -/
import Derived.Test.YtempbaflcbmcpaaM
import Derived.Test.YtempbaflcbmcpaaProg
namespace Go.Proofs.Ytempbaflcbmcpaa
open Go.RowKit

theorem Try.info65 : (Try.prog.info? 65).map (fun i => (i.zero, i.size, i.bytes)) = some (some (.agg #[.string ⟨#[]⟩, .string ⟨#[]⟩]), 2, 32) := by kernel_rfl
theorem Try.info54 : (Try.prog.info? 54).map (fun i => (i.zero, i.size, i.bytes)) = some (some (.agg #[.string ⟨#[]⟩, .pointer none]), 2, 24) := by kernel_rfl

/-- What the row holds behind an insertion of two cells at place 2i. -/
def insCells (xs : List Value) (i : Nat) (c0 c1 : Value) : List Value := xs.take (i * 2) ++ c0 :: c1 :: xs.drop (i * 2)

def InsertRoom (g n cap i e : Nat) (cur : Array Value) (c0 c1 : Value) (w : World) (en : Ending) (w' : World) : Prop :=
  en = .returned (.slice (some ⟨g, 0, none⟩) (n + 1) cap) ∧ Chg (· = g) w w' ∧ ∃ cur' : Array Value, w'.heap[g]? = some (.cells cur' e (0, 0)) ∧ cur'.size = cap * 2 ∧ cur'.toList.take ((n + 1) * 2) = insCells (cur.toList.take (n * 2)) i c0 c1

theorem shift_list (L C1 X1 X2 : List Value) (i n cap : Nat) (c0 c1 : Value) (hi : i < n) (hn : n < cap) (hL : L.length = cap * 2)
    (h1 : C1 = (L.drop (i * 2)).take ((n - i) * 2)) (h2 : X1 = L.take ((i + 1) * 2) ++ C1 ++ L.drop ((i + 1) * 2 + C1.length)) (h3 : X2 = X1.take (i * 2) ++ [c0, c1] ++ X1.drop (i * 2 + 2)) :
    X2.length = cap * 2 ∧ X2.take ((n + 1) * 2) = insCells (L.take (n * 2)) i c0 c1 := by
  have lC : C1.length = (n - i) * 2 := by rw [h1]; simp; omega
  have t1 : X1.take (i * 2) = L.take (i * 2) := by
    rw [h2, List.append_assoc, List.take_append_of_le_length (by simp; omega), List.take_take]; congr 1; omega
  have d1 : X1.drop (i * 2 + 2) = C1 ++ L.drop ((i + 1) * 2 + C1.length) := by
    rw [h2, List.append_assoc, List.drop_append_of_le_length (by simp; omega), List.drop_eq_nil_of_le (by simp; omega), List.nil_append]
  rw [t1, d1] at h3
  refine ⟨by rw [h3]; simp; omega, ?_⟩
  have e : (L.take (i * 2) ++ [c0, c1] ++ C1).length = (n + 1) * 2 := by simp; omega
  rw [h3, ← List.append_assoc, ← e, List.take_left]
  unfold insCells
  rw [List.take_take, h1, List.drop_take, Nat.min_eq_left (by omega)]
  have : n * 2 - i * 2 = (n - i) * 2 := by omega
  rw [this]; simp

def InsertDone (e n i : Nat) (v : Value) (xs : List Value) (c0 c1 : Value) (w : World) (en : Ending) (w' : World) : Prop :=
  ∃ v', en = .returned v' ∧ w'.ownsRow 0 e 2 v' (n + 1) (insCells xs i c0 c1) ∧ Chg (fun k => v.ownBlock = some k) w w' ∧ ∀ k, v'.ownBlock = some k → v.ownBlock = some k ∨ w.heap.size ≤ k

theorem length_insCells (xs : List Value) (n i : Nat) (c0 c1 : Value) (hx : xs.length = n * 2) (hi : i ≤ n) : (insCells xs i c0 c1).length = (n + 1) * 2 := by
  unfold insCells; simp; omega

theorem grow_list (xs Z Y1 Y2 : List Value) (i n cap : Nat) (c0 c1 : Value) (hi : i < n) (hn : n < cap) (hx : xs.length = n * 2) (hZ : Z.length = cap * 2) (hZt : Z.take (i * 2) = xs.take (i * 2))
    (h1 : Y1 = Z.take (i * 2) ++ [c0, c1] ++ Z.drop (i * 2 + 2)) (h2 : Y2 = Y1.take ((i + 1) * 2) ++ xs.drop (i * 2) ++ Y1.drop ((i + 1) * 2 + (xs.drop (i * 2)).length)) :
    Y2.length = cap * 2 ∧ Y2.take ((n + 1) * 2) = insCells xs i c0 c1 := by
  have l1 : Y1.length = cap * 2 := by rw [h1]; simp; omega
  have t1 : Y1.take ((i + 1) * 2) = xs.take (i * 2) ++ [c0, c1] := by
    have : (Z.take (i * 2) ++ [c0, c1]).length = (i + 1) * 2 := by simp; omega
    rw [h1, ← this, List.take_left, hZt]
  refine ⟨by rw [h2]; simp; omega, ?_⟩
  rw [h2, t1]
  have e : (xs.take (i * 2) ++ [c0, c1] ++ xs.drop (i * 2)).length = (n + 1) * 2 := by simp; omega
  rw [← e, List.take_left]
  unfold insCells; simp

/-- Where a search stands; what it comes to. -/
def SearchAt (p : Nat → Bool) (n a b : Nat) : Prop := a ≤ b ∧ b ≤ n ∧ (0 < a → p (a-1) = false) ∧ (b < n → p b = true)
def SearchEnd (p : Nat → Bool) (n : Nat) (w : World) (e : Ending) (w' : World) : Prop := ∃ k m : Nat, SearchAt p n k k ∧ e = .returned (.int .i64 (k : Nat)) ∧ w' = w.drewN m

/-- The keys of a row: its even cells. -/
def keyAt (xs : List Value) (i : Nat) : List UInt8 := match xs[i * 2]? with | some (.string k) => k.toList | _ => []
def KeysIn (xs : List Value) (n : Nat) : Prop := ∀ i, i < n → ∃ k, xs[i * 2]? = some (.string k)

def PlaceEnd (xs : List Value) (n : Nat) (key : ByteArray) (w : World) (e : Ending) (w' : World) : Prop :=
  ∃ k : Nat, SearchAt (fun i => ! Op.bytesLess (keyAt xs i) key.toList) n k k ∧ e = .returned (.int .i64 (k : Nat)) ∧ Below w.heap.size w w'

theorem below_two (w : World) (o1 o2 : Obj) (m : Nat) : Below w.heap.size w (((w.alloc o1).alloc o2).drewN m) :=
  ((((Chg.alloc (S := fun _ => False) w o1).trans (Chg.alloc (S := fun _ => False) _ o2) (fun _ _ h => h)).trans (Chg.drewN (S := fun _ => False) _ m) (fun _ _ h => h))).below (fun _ _ h => h)

/-- What a copy of a row is: a row of its own in a new block. -/
def CloneEnd (e m : Nat) (news : List Value) (w : World) (en : Ending) (w' : World) : Prop :=
  ∃ v', en = .returned v' ∧ w'.ownsRow 0 e 2 v' m news ∧ Below w.heap.size w w' ∧ ∃ k, v'.ownBlock = some k ∧ w.heap.size ≤ k

/-- A row without its i-th item. -/
def delCells (xs : List Value) (i : Nat) : List Value := xs.take (i * 2) ++ xs.drop ((i + 1) * 2)
def DeleteIn (g m cap i e : Nat) (cur : Array Value) (w : World) (en : Ending) (w' : World) : Prop :=
  en = .returned (.slice (some ⟨g, 0, none⟩) m cap) ∧ Chg (· = g) w w' ∧ ∃ cur' : Array Value, w'.heap[g]? = some (.cells cur' e (0, 0)) ∧ cur'.size = cap * 2 ∧ cur'.toList.take (m * 2) = delCells (cur.toList.take ((m + 1) * 2)) i
def DeleteEnd (e n i : Nat) (v : Value) (xs : List Value) (w : World) (en : Ending) (w' : World) : Prop :=
  ∃ v', en = .returned v' ∧ w'.ownsRow 0 e 2 v' n (delCells xs i) ∧ Chg (fun k => v.ownBlock = some k) w w' ∧ v'.ownBlock = v.ownBlock

/-- A row of five, halved: two in the row, three handed back. -/
def HalveEnd (e T b slot : Nat) (cs : Array Value) (xs : List Value) (w : World) (en : Ending) (w' : World) : Prop :=
  ∃ v1 v2 k1 k2, en = .returned v2 ∧ w'.ownsRow 0 e 2 v1 2 (xs.take 4) ∧ w'.ownsRow 0 e 2 v2 3 (xs.drop 4) ∧ w'.heap[b]? = some (.cells (cs.setIfInBounds slot v1) T (0, 0)) ∧ Chg (· = b) w w' ∧
    v1.ownBlock = some k1 ∧ v2.ownBlock = some k2 ∧ w.heap.size ≤ k1 ∧ w.heap.size ≤ k2 ∧ k1 ≠ k2

end Go.Proofs.Ytempbaflcbmcpaa
