/- Inner nodes: what a put leaves. -/
import Derived.Test.YtempbaflcbmcpaaU
namespace Go.Proofs.Ytempbaflcbmcpaa
open Go.RowKit

def blocksL (d : Nat) (l : List (ByteArray × AT d)) : List Nat := l.flatMap fun x => AT.blocks d x.2
theorem blocksL_append (d) (a b : List (ByteArray × AT d)) : blocksL d (a ++ b) = blocksL d a ++ blocksL d b := by simp [blocksL]
theorem blocksL_cons (d) (x : ByteArray × AT d) (b) : blocksL d (x :: b) = AT.blocks d x.2 ++ blocksL d b := by simp [blocksL]
theorem segsOf_append (d) (a b : List (ByteArray × AT d)) : segsOf d (a ++ b) = segsOf d a ++ segsOf d b := by simp [segsOf]
theorem segsOf_cons (d) (x : ByteArray × AT d) (b) : segsOf d (x :: b) = (x.1, AT.toL d x.2) :: segsOf d b := by simp [segsOf]
theorem segsOf_take (d) (a : List (ByteArray × AT d)) (n) : segsOf d (a.take n) = (segsOf d a).take n := by simp [segsOf]
theorem segsOf_drop (d) (a : List (ByteArray × AT d)) (n) : segsOf d (a.drop n) = (segsOf d a).drop n := by simp [segsOf]

theorem WF.mono {lo lo' : Nat} (h : lo' ≤ lo) : ∀ (d : Nat) (t : AT d), WF lo d t → WF lo' d t
  | 0, _, hw => ⟨Nat.le_trans h hw.1, hw.2⟩
  | _ + 1, _, hw => ⟨Nat.le_trans h hw.1, hw.2⟩

theorem headKey_cons : ∀ (d : Nat) (t : AT d), WF 1 d t → ∃ v r, AT.toL d t = (headKey d t, v) :: r
  | 0, t, hw => by
    obtain ⟨b, v, kv⟩ := (t : Leaf)
    cases kv with
    | nil => exact absurd hw.1 (by simp)
    | cons x r => exact ⟨x.2, r, rfl⟩
  | d + 1, t, hw => by
    have e := toL_inner d t
    obtain ⟨b, v, ks⟩ := (t : Inner (AT d))
    cases ks with
    | nil => exact absurd hw.1 (by simp)
    | cons x r =>
      obtain ⟨v', r', hx⟩ := hw.2.2.1 (x.1, AT.toL d x.2) (by simp [segsOf])
      simp only at hx
      rw [segsOf_cons, segs_cons, hx] at e
      unfold headKey
      rw [e]
      exact ⟨v', _, rfl⟩

theorem keyed_cons {d : Nat} {x : ByteArray × AT d} {l : List (ByteArray × AT d)} : Keyed (segsOf d (x :: l)) ↔ (∃ v r, AT.toL d x.2 = (x.1, v) :: r) ∧ Keyed (segsOf d l) := by
  unfold Keyed; rw [segsOf_cons]; simp
theorem keyed_append {d : Nat} {a l : List (ByteArray × AT d)} : Keyed (segsOf d (a ++ l)) ↔ Keyed (segsOf d a) ∧ Keyed (segsOf d l) := by
  unfold Keyed; rw [segsOf_append]; simp only [List.mem_append, or_imp, forall_and]

theorem kidCells_ins (d : Nat) (ks : List (ByteArray × AT d)) (i : Nat) (k : ByteArray) (r : AT d) : insCells (kidCells d ks) i (.string k) (ptr (AT.b d r)) = kidCells d (ks.take i ++ (k, r) :: ks.drop i) := by
  unfold kidCells
  rw [ins_cellsOf, List.map_append, List.map_cons, List.map_take, List.map_drop]
theorem kidCells_key (d : Nat) (ks : List (ByteArray × AT d)) (i : Nat) (h : i < ks.length) : (kidCells d ks)[i * 2]? = some (.string ks[i].1) := by
  have := key_cellsOf (ks.map fun x => (x.1, ptr (AT.b d x.2))) i (by simpa using h)
  simpa [kidCells] using this
theorem kidCells_val (d : Nat) (ks : List (ByteArray × AT d)) (i : Nat) (h : i < ks.length) : (kidCells d ks)[i * 2 + 1]? = some (ptr (AT.b d ks[i].2)) := by
  have := val_cellsOf (ks.map fun x => (x.1, ptr (AT.b d x.2))) i (by simpa using h)
  simpa [kidCells] using this
theorem length_kidCells (d : Nat) (ks : List (ByteArray × AT d)) : (kidCells d ks).length = ks.length * 2 := by simp [kidCells, length_cellsOf]
theorem kidCells_one (d : Nat) (ks : List (ByteArray × AT d)) : ∀ v ∈ kidCells d ks, v.oneCell' = true :=
  one_cellsOf _ (by intro x hx; simp at hx; obtain ⟨a, b, -, rfl⟩ := hx; rfl)
theorem kidCells_set_key (d : Nat) (A C : List (ByteArray × AT d)) (k k' : ByteArray) (x : AT d) : (kidCells d (A ++ (k, x) :: C)).set (A.length * 2) (.string k') = kidCells d (A ++ (k', x) :: C) := by
  unfold kidCells
  rw [List.map_append, List.map_cons, List.map_append, List.map_cons]
  have := set_key_cellsOf (A.map fun x => (x.1, ptr (AT.b d x.2))) (C.map fun x => (x.1, ptr (AT.b d x.2))) k k' (ptr (AT.b d x))
  rw [List.length_map] at this
  exact this
theorem kidCells_same (d : Nat) (A C : List (ByteArray × AT d)) (k : ByteArray) (x y : AT d) (h : AT.b d x = AT.b d y) : kidCells d (A ++ (k, x) :: C) = kidCells d (A ++ (k, y) :: C) := by
  unfold kidCells; rw [List.map_append, List.map_cons, List.map_append, List.map_cons, h]
theorem kidCells_take (d : Nat) (ks : List (ByteArray × AT d)) (n : Nat) : (kidCells d ks).take (n * 2) = kidCells d (ks.take n) := by
  unfold kidCells; rw [take_cellsOf, List.map_take]
theorem kidCells_drop (d : Nat) (ks : List (ByteArray × AT d)) (n : Nat) : (kidCells d ks).drop (n * 2) = kidCells d (ks.drop n) := by
  unfold kidCells; rw [drop_cellsOf, List.map_drop]
theorem kidCells_keyAt (d : Nat) (ks : List (ByteArray × AT d)) (i : Nat) (h : i < ks.length) : keyAt (kidCells d ks) i = ks[i].1.toList := by
  simp [keyAt, kidCells_key d ks i h]

/-- Below which kid a key lies. -/
theorem under_pos {d : Nat} {ks : List (ByteArray × AT d)} (hk : Keyed (segsOf d ks)) (hs : Srt (segs (segsOf d ks))) (hne : 0 < ks.length) (key : ByteArray) (k u : Nat)
    (hse : SearchAt (fun i => ! Op.bytesLess (keyAt (kidCells d ks) i) key.toList) ks.length k k)
    (hu : k < ks.length ∧ keyAt (kidCells d ks) k = key.toList ∧ u = k ∨ ¬ (k < ks.length ∧ keyAt (kidCells d ks) k = key.toList) ∧ u = k - 1) :
    ∃ h : u < ks.length, ks = ks.take u ++ ks[u] :: ks.drop (u + 1) ∧ (∀ x ∈ segs (segsOf d (ks.take u)), lt x.1 key = true) ∧ ∀ x ∈ segs (segsOf d (ks.drop (u + 1))), lt key x.1 = true := by
  have hlen : (segsOf d ks).length = ks.length := by simp [segsOf]
  have hkl : (keysOf (segsOf d ks)).length = ks.length := by simp [keysOf, segsOf]
  have hge : ∀ (j : Nat) (h : j < ks.length), (keysOf (segsOf d ks))[j]'(by omega) = (ks[j].1, ByteArray.empty) := by intro j h; simp [keysOf, segsOf]
  have hp : Pos (keysOf (segsOf d ks)) key k := by
    refine pos_of_search (srt_keysOf _ hk hs) key k (by rw [hkl]; exact hse.2.1) (fun hj h0 => ?_) (fun hj => ?_)
    · have := hse.2.2.1 h0
      rw [hkl] at hj
      simp only [kidCells_keyAt d ks _ hj] at this
      rw [hge _ hj]
      simpa [lt] using this
    · rw [hkl] at hj
      have := hse.2.2.2 hj
      simp only [kidCells_keyAt d ks _ hj] at this
      rw [hge _ hj]
      simpa [lt] using this
  obtain ⟨h1, -, h3, h4⟩ := under_ok hk hs (by intro e; rw [e] at hlen; simp at hlen; omega) key k u hp (by
    rcases hu with ⟨h1, h2, h3⟩ | ⟨h1, h2⟩
    · refine .inl ⟨⟨by omega, ?_⟩, h3⟩
      rw [kidCells_keyAt d ks _ h1] at h2
      have := toList_inj h2
      simpa [segsOf] using this
    · refine .inr ⟨?_, h2⟩
      rintro ⟨h, e⟩
      have hk2 : k < ks.length := by omega
      refine h1 ⟨hk2, ?_⟩
      rw [kidCells_keyAt d ks _ hk2]
      have e2 : ks[k].1 = key := by simpa [segsOf] using e
      rw [e2])
  refine ⟨by omega, by rw [← List.drop_eq_getElem_cons (by omega), List.take_append_drop], ?_, ?_⟩
  · rw [segsOf_take]; exact h3
  · rw [segsOf_drop]; exact h4

/-- What stands behind the put below a kid, with the kid's key set anew. -/
structure Mid (lo d : Nat) (b g n cap : Nat) (A C : List (ByteArray × AT d)) (kk : ByteArray) (kid kid' : AT d) (r : Option (AT d)) (k v : ByteArray) (w w3 : World) : Prop where
  hn : n = A.length + 1 + C.length
  hb : w3.heap[b]? = some (.cells #[.slice none 0 0, .slice (some ⟨g, 0, none⟩) n cap] 62 (0, 0))
  ho : w3.ownsRow 0 54 2 (.slice (some ⟨g, 0, none⟩) n cap) n (kidCells d (A ++ (headKey d kid', kid') :: C))
  hA : ∀ x ∈ A, Lies w3 d x.2 ∧ WF 2 d x.2
  hC : ∀ x ∈ C, Lies w3 d x.2 ∧ WF 2 d x.2
  hk : Lies w3 d kid' ∧ WF 2 d kid'
  hr : ∀ x, r = some x → Lies w3 d x ∧ WF 2 d x
  keyA : Keyed (segsOf d A)
  keyC : Keyed (segsOf d C)
  eq : segs (segsOf d A) ++ ((AT.toL d kid' ++ restL d r) ++ segs (segsOf d C)) = ins k v (segs (segsOf d (A ++ (kk, kid) :: C)))
  nodup : (b :: g :: (blocksL d A ++ ((AT.blocks d kid' ++ restB d r) ++ blocksL d C))).Nodup
  new : ∀ x ∈ AT.blocks d kid' ++ restB d r, x ∈ AT.blocks d kid ∨ w.heap.size ≤ x
  chg : Chg (· ∈ b :: g :: (blocksL d A ++ (AT.blocks d kid ++ blocksL d C))) w w3
  lo : lo ≤ n ∧ n ≤ 4 ∧ lo ≤ 2

theorem mid_keyed {lo d b g n cap : Nat} {A C : List (ByteArray × AT d)} {kk : ByteArray} {kid kid' : AT d} {r : Option (AT d)} {k v : ByteArray} {w w3 : World}
    (m : Mid lo d b g n cap A C kk kid kid' r k v w w3) : Keyed (segsOf d (A ++ (headKey d kid', kid') :: C)) :=
  keyed_append.2 ⟨m.keyA, keyed_cons.2 ⟨headKey_cons d kid' (WF.mono (by omega) _ _ m.hk.2), m.keyC⟩⟩

theorem put_inner_none {lo d b g n cap : Nat} {A C : List (ByteArray × AT d)} {kk : ByteArray} {kid kid' : AT d} {k v : ByteArray} {w w3 : World}
    (m : Mid lo d b g n cap A C kk kid kid' none k v w w3) :
    PutEnd lo (d + 1) (⟨b, .slice (some ⟨g, 0, none⟩) n cap, A ++ (kk, kid) :: C⟩ : Inner (AT d)) k v w (.returned (.tuple #[.pointer none, .bool (get k (segs (segsOf d (A ++ (kk, kid) :: C)))).isSome])) w3 := by
  have hl : (A ++ (headKey d kid', kid') :: C).length = n := by rw [m.hn]; simp; omega
  refine ⟨(⟨b, .slice (some ⟨g, 0, none⟩) n cap, A ++ (headKey d kid', kid') :: C⟩ : Inner (AT d)), none, ?_, rfl, ⟨m.hb, ?_, ?_⟩, ⟨?_, ?_, mid_keyed m, ?_⟩, by simp, ?_, ?_, ?_, ?_⟩
  · rw [← toL_inner d ⟨b, .slice (some ⟨g, 0, none⟩) n cap, A ++ (kk, kid) :: C⟩]; rfl
  · show World.ownsRow _ 0 54 2 _ (A ++ (headKey d kid', kid') :: C).length _
    rw [hl]; exact m.ho
  · intro x hx
    replace hx : x ∈ A ++ (headKey d kid', kid') :: C := hx
    rcases List.mem_append.1 hx with hx | hx
    · exact (m.hA x hx).1
    · rcases List.mem_cons.1 hx with rfl | hx
      · exact m.hk.1
      · exact (m.hC x hx).1
  · show lo ≤ (A ++ (headKey d kid', kid') :: C).length
    rw [hl]; exact m.lo.1
  · show (A ++ (headKey d kid', kid') :: C).length ≤ 4
    rw [hl]; exact m.lo.2.1
  · intro x hx
    replace hx : x ∈ A ++ (headKey d kid', kid') :: C := hx
    rcases List.mem_append.1 hx with hx | hx
    · exact (m.hA x hx).2
    · rcases List.mem_cons.1 hx with rfl | hx
      · exact m.hk.2
      · exact (m.hC x hx).2
  · rw [toL_inner, toL_inner]
    show segs (segsOf d (A ++ (headKey d kid', kid') :: C)) ++ [] = _
    have := m.eq
    rw [restL, List.append_nil] at this
    rw [segsOf_append, segsOf_cons, segs_append, segs_cons, List.append_nil]
    exact this
  · show ((b :: ([g] ++ blocksL d (A ++ (headKey d kid', kid') :: C))) ++ []).Nodup
    have := m.nodup
    rw [restB, List.append_nil] at this
    rw [List.append_nil, blocksL_append, blocksL_cons]
    exact this
  · intro x hx
    replace hx : x ∈ (b :: ([g] ++ blocksL d (A ++ (headKey d kid', kid') :: C))) ++ [] := hx
    show x ∈ b :: ([g] ++ blocksL d (A ++ (kk, kid) :: C)) ∨ _
    rw [List.append_nil, blocksL_append, blocksL_cons] at hx
    rw [blocksL_append, blocksL_cons]
    have hnew := m.new x
    simp only [List.mem_cons, List.mem_append, restB, List.not_mem_nil, or_false] at hx hnew ⊢
    rcases hx with h | h | h | h | h
    · exact .inl (.inl h)
    · exact .inl (.inr (.inl h))
    · exact .inl (.inr (.inr (.inl h)))
    · rcases hnew h with h | h
      · exact .inl (.inr (.inr (.inr (.inl h))))
      · exact .inr h
    · exact .inl (.inr (.inr (.inr (.inr h))))
  · refine m.chg.mono (fun x _ h => ?_)
    show x ∈ b :: ([g] ++ blocksL d (A ++ (kk, kid) :: C))
    rw [blocksL_append, blocksL_cons]
    exact h

/-- Kids that lie, in a world behind w. -/
structure Kids (d : Nat) (old : List Nat) (b : Nat) (ks : List (ByteArray × AT d)) (w w' : World) : Prop where
  lies : ∀ x ∈ ks, Lies w' d x.2 ∧ WF 2 d x.2
  keyed : Keyed (segsOf d ks)
  nodup : (b :: blocksL d ks).Nodup
  new : ∀ x ∈ blocksL d ks, x ∈ old ∨ w.heap.size ≤ x
  chg : Chg (· ∈ old) w w'

theorem Kids.chgd {d : Nat} {old : List Nat} {b : Nat} {ks : List (ByteArray × AT d)} {w w' w'' : World} (h : Kids d old b ks w w') {S : Nat → Prop} (hc : Chg S w' w'') (h1 : ∀ x ∈ blocksL d ks, ¬ S x) (h2 : ∀ x, x < w.heap.size → S x → x ∈ old) : Kids d old b ks w w'' :=
  ⟨fun x hx => ⟨(h.lies x hx).1.chg hc d x.2 (fun k hk => h1 k (by unfold blocksL; rw [List.mem_flatMap]; exact ⟨x, hx, hk⟩)), (h.lies x hx).2⟩, h.keyed, h.nodup, h.new, h.chg.trans hc (fun i hi hs => h2 i hi hs)⟩
theorem Kids.lt {d : Nat} {old : List Nat} {b : Nat} {ks : List (ByteArray × AT d)} {w w' : World} (h : Kids d old b ks w w') : ∀ x ∈ blocksL d ks, x < w'.heap.size := by
  intro x hx
  unfold blocksL at hx
  rw [List.mem_flatMap] at hx
  obtain ⟨y, hy, hx⟩ := hx
  exact (h.lies y hy).1.lt d y.2 x hx

theorem mid_kids {lo d b g n cap : Nat} {A C : List (ByteArray × AT d)} {kk : ByteArray} {kid kid' : AT d} {r : AT d} {k v : ByteArray} {w w3 : World}
    (m : Mid lo d b g n cap A C kk kid kid' (some r) k v w w3) : Kids d (b :: g :: (blocksL d A ++ (AT.blocks d kid ++ blocksL d C))) b (A ++ (headKey d kid', kid') :: (headKey d r, r) :: C) w w3 := by
  refine ⟨?_, ?_, ?_, ?_, m.chg⟩
  · intro x hx
    rcases List.mem_append.1 hx with hx | hx
    · exact m.hA x hx
    · rcases List.mem_cons.1 hx with rfl | hx
      · exact m.hk
      · rcases List.mem_cons.1 hx with rfl | hx
        · exact m.hr r rfl
        · exact m.hC x hx
  · exact keyed_append.2 ⟨m.keyA, keyed_cons.2 ⟨headKey_cons d kid' (WF.mono (by omega) _ _ m.hk.2), keyed_cons.2 ⟨headKey_cons d r (WF.mono (by omega) _ _ (m.hr r rfl).2), m.keyC⟩⟩⟩
  · have := m.nodup
    rw [List.nodup_cons, List.nodup_cons] at this
    rw [blocksL_append, blocksL_cons, blocksL_cons, List.nodup_cons]
    rw [restB] at this
    refine ⟨fun h => this.1 ?_, ?_⟩
    · rw [List.mem_cons]; right; simpa using h
    · simpa using this.2.2
  · intro x hx
    rw [blocksL_append, blocksL_cons, blocksL_cons] at hx
    have hnew := m.new x
    simp only [List.mem_cons, List.mem_append, restB] at hx hnew ⊢
    rcases hx with h | h | h | h
    · exact .inl (.inr (.inr (.inl h)))
    · rcases hnew (.inl h) with h | h
      · exact .inl (.inr (.inr (.inr (.inl h))))
      · exact .inr h
    · rcases hnew (.inr h) with h | h
      · exact .inl (.inr (.inr (.inr (.inl h))))
      · exact .inr h
    · exact .inl (.inr (.inr (.inr (.inr h))))

theorem mid_segs {lo d b g n cap : Nat} {A C : List (ByteArray × AT d)} {kk : ByteArray} {kid kid' : AT d} {r : AT d} {k v : ByteArray} {w w3 : World}
    (m : Mid lo d b g n cap A C kk kid kid' (some r) k v w w3) : segs (segsOf d (A ++ (headKey d kid', kid') :: (headKey d r, r) :: C)) = ins k v (segs (segsOf d (A ++ (kk, kid) :: C))) := by
  rw [← m.eq, segsOf_append, segsOf_cons, segsOf_cons, segs_append, segs_cons, segs_cons, restL, List.append_assoc]

/-- The end of a put with a new kid that fits. -/
theorem put_inner_in {lo d b n cap g' : Nat} {tv : Value} {ks0 ks : List (ByteArray × AT d)} {k v : ByteArray} {w w' : World}
    (K : Kids d (AT.blocks (d + 1) (⟨b, tv, ks0⟩ : Inner (AT d))) b ks w w') (hseg : segs (segsOf d ks) = ins k v (segs (segsOf d ks0))) (hl : ks.length = n) (hn : lo ≤ n ∧ n ≤ 4)
    (hb : w'.heap[b]? = some (.cells #[.slice none 0 0, .slice (some ⟨g', 0, none⟩) n cap] 62 (0, 0))) (ho : w'.ownsRow 0 54 2 (.slice (some ⟨g', 0, none⟩) n cap) n (kidCells d ks))
    (hg : g' ≠ b ∧ g' ∉ blocksL d ks) (hg2 : g' ∈ AT.blocks (d + 1) (⟨b, tv, ks0⟩ : Inner (AT d)) ∨ w.heap.size ≤ g') :
    PutEnd lo (d + 1) (⟨b, tv, ks0⟩ : Inner (AT d)) k v w (.returned (.tuple #[.pointer none, .bool (get k (segs (segsOf d ks0))).isSome])) w' := by
  refine ⟨(⟨b, .slice (some ⟨g', 0, none⟩) n cap, ks⟩ : Inner (AT d)), none, ?_, rfl, ⟨hb, ?_, fun x hx => (K.lies x hx).1⟩, ⟨?_, ?_, K.keyed, fun x hx => (K.lies x hx).2⟩, by simp, ?_, ?_, ?_, K.chg⟩
  · rw [← toL_inner d ⟨b, tv, ks0⟩]; rfl
  · show World.ownsRow _ 0 54 2 _ ks.length _
    rw [hl]; exact ho
  · show lo ≤ ks.length
    rw [hl]; exact hn.1
  · show ks.length ≤ 4
    rw [hl]; exact hn.2
  · rw [toL_inner, toL_inner]
    show segs (segsOf d ks) ++ [] = _
    rw [List.append_nil]; exact hseg
  · show ((b :: ([g'] ++ blocksL d ks)) ++ []).Nodup
    have h := K.nodup
    rw [List.nodup_cons] at h
    rw [List.append_nil, List.nodup_cons]
    refine ⟨?_, ?_⟩
    · simp only [List.mem_append, List.mem_singleton, not_or]; exact ⟨hg.1.symm, h.1⟩
    · rw [List.singleton_append, List.nodup_cons]; exact ⟨hg.2, h.2⟩
  · intro x hx
    replace hx : x ∈ (b :: ([g'] ++ blocksL d ks)) ++ [] := hx
    rw [List.append_nil] at hx
    rcases List.mem_cons.1 hx with rfl | hx
    · exact .inl (by show x ∈ x :: _; simp)
    · rcases List.mem_append.1 hx with hx | hx
      · rw [List.mem_singleton] at hx; subst hx; exact hg2
      · exact K.new x hx

/-- The end of a put that halves the node. -/
theorem put_inner_split {lo d b c1 c2 k1 k2 N : Nat} {tv : Value} {ks0 ks : List (ByteArray × AT d)} {k v : ByteArray} {w w' : World}
    (K : Kids d (AT.blocks (d + 1) (⟨b, tv, ks0⟩ : Inner (AT d))) b ks w w') (hseg : segs (segsOf d ks) = ins k v (segs (segsOf d ks0))) (hl : ks.length = 5) (hlo : lo ≤ 2)
    (hb : w'.heap[b]? = some (.cells #[.slice none 0 0, .slice (some ⟨k1, 0, none⟩) 2 c1] 62 (0, 0))) (hN : w'.heap[N]? = some (.cells #[.slice none 0 0, .slice (some ⟨k2, 0, none⟩) 3 c2] 62 (0, 0)))
    (ho1 : w'.ownsRow 0 54 2 (.slice (some ⟨k1, 0, none⟩) 2 c1) 2 (kidCells d (ks.take 2))) (ho2 : w'.ownsRow 0 54 2 (.slice (some ⟨k2, 0, none⟩) 3 c2) 3 (kidCells d (ks.drop 2)))
    (M : Nat) (hM : ∀ x ∈ b :: blocksL d ks, x < M) (hk : M ≤ k1 ∧ M ≤ k2 ∧ M ≤ N ∧ k1 ≠ k2 ∧ N ≠ k1 ∧ N ≠ k2) (hwM : w.heap.size ≤ M) :
    PutEnd lo (d + 1) (⟨b, tv, ks0⟩ : Inner (AT d)) k v w (.returned (.tuple #[.pointer (some ⟨N, 0, none⟩), .bool (get k (segs (segsOf d ks0))).isSome])) w' := by
  have l1 : (ks.take 2).length = 2 := by rw [List.length_take, hl]; rfl
  have l2 : (ks.drop 2).length = 3 := by rw [List.length_drop, hl]
  have hsp : blocksL d ks = blocksL d (ks.take 2) ++ blocksL d (ks.drop 2) := by rw [← blocksL_append, List.take_append_drop]
  have hkd : Keyed (segsOf d (ks.take 2)) ∧ Keyed (segsOf d (ks.drop 2)) := by rw [← keyed_append, List.take_append_drop]; exact K.keyed
  refine ⟨(⟨b, .slice (some ⟨k1, 0, none⟩) 2 c1, ks.take 2⟩ : Inner (AT d)), some (⟨N, .slice (some ⟨k2, 0, none⟩) 3 c2, ks.drop 2⟩ : Inner (AT d)), ?_, rfl, ⟨hb, ?_, fun x hx => (K.lies x (List.mem_of_mem_take hx)).1⟩,
    ⟨?_, ?_, hkd.1, fun x hx => (K.lies x (List.mem_of_mem_take hx)).2⟩, ?_, ?_, ?_, ?_, K.chg⟩
  · rw [← toL_inner d ⟨b, tv, ks0⟩]; rfl
  · show World.ownsRow _ 0 54 2 _ (ks.take 2).length _
    rw [l1]; exact ho1
  · show lo ≤ (ks.take 2).length
    omega
  · show (ks.take 2).length ≤ 4
    omega
  · intro x hx
    cases hx
    refine ⟨⟨hN, ?_, fun x hx => (K.lies x (List.mem_of_mem_drop hx)).1⟩, ?_, ?_, hkd.2, fun x hx => (K.lies x (List.mem_of_mem_drop hx)).2⟩
    · show World.ownsRow _ 0 54 2 _ (ks.drop 2).length _
      rw [l2]; exact ho2
    · show 2 ≤ (ks.drop 2).length
      omega
    · show (ks.drop 2).length ≤ 4
      omega
  · have e1 := toL_inner d ⟨b, .slice (some ⟨k1, 0, none⟩) 2 c1, ks.take 2⟩
    have e2 := toL_inner d ⟨N, .slice (some ⟨k2, 0, none⟩) 3 c2, ks.drop 2⟩
    have e3 := toL_inner d ⟨b, tv, ks0⟩
    simp only at e1 e2 e3
    show AT.toL (d + 1) _ ++ AT.toL (d + 1) _ = ins k v (AT.toL (d + 1) _)
    rw [e1, e2, e3]
    rw [← segs_append, ← segsOf_append, List.take_append_drop]; exact hseg
  · show ((b :: ([k1] ++ blocksL d (ks.take 2))) ++ (N :: ([k2] ++ blocksL d (ks.drop 2)))).Nodup
    have h := K.nodup
    rw [hsp, List.nodup_cons, List.nodup_append] at h
    obtain ⟨h1, h2, h3, h4⟩ := h
    have hb' := hM b (by simp)
    have ht : ∀ x ∈ blocksL d (ks.take 2), x < M := fun x hx => hM x (by rw [hsp]; simp [hx])
    have hd : ∀ x ∈ blocksL d (ks.drop 2), x < M := fun x hx => hM x (by rw [hsp]; simp [hx])
    simp only [List.mem_append, not_or] at h1
    simp only [List.cons_append, List.nil_append, List.nodup_cons, List.mem_cons, List.mem_append, not_or, List.nodup_append]
    refine ⟨⟨by omega, h1.1, by omega, by omega, h1.2⟩, ⟨fun h => by have := ht _ h; omega, by omega, by omega, fun h => by have := hd _ h; omega⟩, h2, ⟨⟨by omega, fun h => by have := hd _ h; omega⟩, ⟨fun h => by have := hd _ h; omega, h3⟩⟩, ?_⟩
    intro x hx y hy
    rcases hy with rfl | rfl | hy
    · have := ht x hx; omega
    · have := ht x hx; omega
    · exact h4 x hx y hy
  · intro x hx
    replace hx : x ∈ (b :: ([k1] ++ blocksL d (ks.take 2))) ++ (N :: ([k2] ++ blocksL d (ks.drop 2))) := hx
    simp only [List.cons_append, List.nil_append, List.mem_cons, List.mem_append] at hx
    have hnew := K.new x
    rw [hsp, List.mem_append] at hnew
    rcases hx with rfl | rfl | h | rfl | rfl | h
    · exact .inl (by show x ∈ x :: _; simp)
    · exact .inr (by omega)
    · exact hnew (.inl h)
    · exact .inr (by omega)
    · exact .inr (by omega)
    · exact hnew (.inr h)

theorem mid_mk {lo d b g n cap : Nat} {A C : List (ByteArray × AT d)} {kk : ByteArray} {kid kid' : AT d} {r : Option (AT d)} {k v : ByteArray} {w w1 w2 : World}
    (hkn : (A ++ (kk, kid) :: C).length = n) (hkids : ∀ x ∈ A ++ (kk, kid) :: C, Lies w d x.2 ∧ WF 2 d x.2) (hK : Keyed (segsOf d (A ++ (kk, kid) :: C))) (hlo : lo ≤ n ∧ n ≤ 4 ∧ lo ≤ 2)
    (hnd : (b :: g :: blocksL d (A ++ (kk, kid) :: C)).Nodup) (hlA : ∀ x ∈ segs (segsOf d A), lt x.1 k = true) (hgC : ∀ x ∈ segs (segsOf d C), lt k x.1 = true)
    (hbl : b < w.heap.size) (hgl : g < w.heap.size) (hb1 : Below w.heap.size w w1)
    (hb2 : w2.heap[b]? = some (.cells #[.slice none 0 0, .slice (some ⟨g, 0, none⟩) n cap] 62 (0, 0))) (ho2 : w2.ownsRow 0 54 2 (.slice (some ⟨g, 0, none⟩) n cap) n (kidCells d (A ++ (kk, kid) :: C)))
    (hkb : AT.b d kid' = AT.b d kid) (hkl2 : Lies w2 d kid') (hkw2 : WF 2 d kid') (hrl2 : ∀ x, r = some x → Lies w2 d x ∧ WF 2 d x) (heq2 : AT.toL d kid' ++ restL d r = ins k v (AT.toL d kid))
    (hnd2 : (AT.blocks d kid' ++ restB d r).Nodup) (hnew2 : ∀ x ∈ AT.blocks d kid' ++ restB d r, x ∈ AT.blocks d kid ∨ w1.heap.size ≤ x) (hch2 : Chg (· ∈ AT.blocks d kid) w1 w2) :
    Mid lo d b g n cap A C kk kid kid' r k v w (w2.drew.setCell ⟨g, A.length * 2, none⟩ (.string (headKey d kid'))) := by
  have hs1 := hb1.size
  have hnd' := hnd
  rw [blocksL_append, blocksL_cons] at hnd'
  have hbs : ∀ x ∈ b :: g :: blocksL d A, x < w1.heap.size := by
    intro x hx
    rcases List.mem_cons.1 hx with rfl | hx
    · omega
    · rcases List.mem_cons.1 hx with rfl | hx
      · omega
      · unfold blocksL at hx
        rw [List.mem_flatMap] at hx
        obtain ⟨y, hy, hx⟩ := hx
        have := (hkids y (by simp [hy])).1.lt d y.2 x hx
        omega
  have hcs : ∀ x ∈ blocksL d C, x < w1.heap.size := by
    intro x hx
    unfold blocksL at hx
    rw [List.mem_flatMap] at hx
    obtain ⟨y, hy, hx⟩ := hx
    have := (hkids y (by simp [hy])).1.lt d y.2 x hx
    omega
  have hnd3 : ((b :: g :: blocksL d A) ++ ((AT.blocks d kid' ++ restB d r) ++ blocksL d C)).Nodup :=
    nodup_replace (A := b :: g :: blocksL d A) (B := AT.blocks d kid) (C := blocksL d C) (N := w1.heap.size) hnd' hbs hcs hnd2 hnew2
  have hc3 : Chg (· = g) w2 (w2.drew.setCell ⟨g, A.length * 2, none⟩ (.string (headKey d kid'))) :=
    (Chg.drew _ _).trans (Chg.setCell (S := (· = g)) (p := ⟨g, A.length * 2, none⟩) (fun _ => rfl) _) (fun _ _ h => h)
  have hmem : ∀ {x : ByteArray × AT d} {l : List (ByteArray × AT d)}, x ∈ l → ∀ k ∈ AT.blocks d x.2, k ∈ blocksL d l := fun {x l} hx k hk => by
    unfold blocksL; rw [List.mem_flatMap]; exact ⟨x, hx, hk⟩
  have hn3 := hnd'
  rw [List.nodup_cons, List.nodup_cons, List.nodup_append, List.nodup_append] at hn3
  obtain ⟨q1, q2, q3, ⟨q4, q5, q6⟩, q7⟩ := hn3
  have hother : ∀ x, x ∈ A ∨ x ∈ C → Lies (w2.drew.setCell ⟨g, A.length * 2, none⟩ (.string (headKey d kid'))) d x.2 ∧ WF 2 d x.2 := by
    intro x hx
    have h0 := hkids x (by rcases hx with hx | hx <;> simp [hx])
    have h1 : Lies w1 d x.2 := h0.1.chg (below_chg hb1) d x.2 (fun _ _ h => h)
    have h2 : Lies w2 d x.2 := h1.chg hch2 d x.2 (fun y hy hyk => by
      rcases hx with hx | hx
      · exact q7 y (hmem hx y hy) y (by simp [hyk]) rfl
      · exact q6 y hyk y (hmem hx y hy) rfl)
    refine ⟨h2.chg hc3 d x.2 (fun y hy e => ?_), h0.2⟩
    subst e
    rcases hx with hx | hx
    · exact q2 (by simp [hmem hx y hy])
    · exact q2 (by simp [hmem hx y hy])
  have hgk : ∀ y ∈ AT.blocks d kid' ++ restB d r, y ≠ g := by
    intro y hy e
    subst e
    rcases hnew2 y hy with h | h
    · exact q2 (by simp [h])
    · omega
  refine ⟨by rw [← hkn]; simp; omega, ?_, ?_, fun x hx => hother x (.inl hx), fun x hx => hother x (.inr hx), ⟨?_, hkw2⟩, ?_, ?_, ?_, ?_, hnd3, ?_, ?_, hlo⟩
  · refine hc3.at hb2 (fun e => ?_)
    exact q1 (by simp [e])
  · have hset := ownsRow_set (w := w2.drew) (j := A.length * 2) (ownsRow_chg (Chg.drew (fun _ => False) w2) ho2 (fun _ _ h => h)) (by rw [← hkn]; simp) (.string (headKey d kid'))
    rw [kidCells_set_key, kidCells_same d A C (headKey d kid') kid kid' hkb.symm] at hset
    exact hset
  · exact hkl2.chg hc3 d kid' (fun y hy e => hgk y (by simp [hy]) e)
  · intro x hx
    have h := hrl2 x hx
    refine ⟨h.1.chg hc3 d x (fun y hy e => hgk y (by rw [hx]; simp [restB, hy]) e), h.2⟩
  · exact (keyed_append.1 hK).1
  · exact (keyed_cons.1 (keyed_append.1 hK).2).2
  · rw [segsOf_append, segsOf_cons, segs_append, segs_cons, heq2, ins_mid k v _ _ _ hlA hgC]
  · intro x hx
    exact (hnew2 x hx).imp id (fun h => by omega)
  · have hc1 : Chg (· ∈ b :: g :: (blocksL d A ++ (AT.blocks d kid ++ blocksL d C))) w w2 := (Chg.of_below hb1).trans hch2 (fun i _ h => by simp [h])
    exact hc1.trans hc3 (fun i _ h => by simp [show i = g from h])

/-- Behind the insertion of the new kid. -/
structure MidIn (d b g' n cap : Nat) (old : List Nat) (ks : List (ByteArray × AT d)) (w w5 : World) : Prop where
  kids : Kids d old b ks w w5
  hb : w5.heap[b]? = some (.cells #[.slice none 0 0, .slice (some ⟨g', 0, none⟩) n cap] 62 (0, 0))
  ho : w5.ownsRow 0 54 2 (.slice (some ⟨g', 0, none⟩) n cap) n (kidCells d ks)
  hg : g' ≠ b ∧ g' ∉ blocksL d ks
  hg2 : g' ∈ old ∨ w.heap.size ≤ g'

theorem mid_in {lo d b g n cap g4 cap4 : Nat} {A C : List (ByteArray × AT d)} {kk : ByteArray} {kid kid' : AT d} {r : AT d} {k v : ByteArray} {w w3 w4 : World} {o : Obj}
    (m : Mid lo d b g n cap A C kk kid kid' (some r) k v w w3) (_hbl : b < w.heap.size)
    (ho4 : w4.ownsRow 0 54 2 (.slice (some ⟨g4, 0, none⟩) (n + 1) cap4) (n + 1) (insCells (kidCells d (A ++ (headKey d kid', kid') :: C)) (A.length + 1) (.string (headKey d r)) (ptr (AT.b d r))))
    (hch4 : Chg (fun x => (Value.slice (some ⟨g, 0, none⟩) n cap).ownBlock = some x) (w3.drew.alloc o) w4) (hnew4 : g = g4 ∨ (w3.drew.alloc o).heap.size ≤ g4) :
    w4.heap[b]? = some (.cells #[.slice none 0 0, .slice (some ⟨g, 0, none⟩) n cap] 62 (0, 0)) ∧
    MidIn d b g4 (n + 1) cap4 (b :: g :: (blocksL d A ++ (AT.blocks d kid ++ blocksL d C))) (A ++ (headKey d kid', kid') :: (headKey d r, r) :: C) w (w4.setCell ⟨b, 1, none⟩ (.slice (some ⟨g4, 0, none⟩) (n + 1) cap4)) := by
  have K := mid_kids m
  have hnd := m.nodup
  rw [List.nodup_cons, List.nodup_cons] at hnd
  have hgk : g ∉ blocksL d (A ++ (headKey d kid', kid') :: (headKey d r, r) :: C) := by
    rw [blocksL_append, blocksL_cons, blocksL_cons]
    intro h
    exact hnd.2.1 (by simpa [restB] using h)
  have hbk : b ∉ blocksL d (A ++ (headKey d kid', kid') :: (headKey d r, r) :: C) := (List.nodup_cons.1 K.nodup).1
  have hbg : b ≠ g := fun e => hnd.1 (by simp [e])
  have hc34 : Chg (· = g) w3 w4 := ((Chg.drew (S := (· = g)) w3).trans (Chg.alloc (S := (· = g)) _ o) (fun _ _ h => h)).trans hch4 (fun x _ h => by cases h; rfl)
  have hb4 := hc34.at m.hb (fun e => hbg e)
  have hs34 := hc34.size
  have hsz : (w3.drew.alloc o).heap.size = w3.heap.size + 1 := by simp
  rw [hsz] at hnew4
  have hgb : g4 ≠ b := by
    rcases hnew4 with h | h
    · rw [← h]; exact hbg.symm
    · have := lt_of_heap m.hb; omega
  have hc5 : Chg (· = b) w4 (w4.setCell ⟨b, 1, none⟩ (.slice (some ⟨g4, 0, none⟩) (n + 1) cap4)) := Chg.setCell (S := (· = b)) (p := ⟨b, 1, none⟩) (fun _ => rfl) _
  have hlt := K.lt
  have hsw : w.heap.size ≤ w3.heap.size := m.chg.size
  refine ⟨hb4, ⟨?_, heap_setCell w4 b 1 _ 62 _ hb4, ?_, ⟨hgb, ?_⟩, ?_⟩⟩
  · have K4 := K.chgd hc34 (fun x hx e => hgk (e ▸ hx)) (fun x _ e => by simp [show x = g from e])
    exact K4.chgd hc5 (fun x hx e => hbk (e ▸ hx)) (fun x _ e => by simp [show x = b from e])
  · have h := ownsRow_chg hc5 ho4 (fun x hx => by cases hx; exact hgb)
    rw [kidCells_ins] at h
    have e1 : (A ++ (headKey d kid', kid') :: C).take (A.length + 1) = A ++ [(headKey d kid', kid')] := by
      rw [List.take_length_add_append]; simp
    have e2 : (A ++ (headKey d kid', kid') :: C).drop (A.length + 1) = C := by
      rw [List.drop_length_add_append]; simp
    rw [e1, e2, List.append_assoc] at h
    exact h
  · rcases hnew4 with h | h
    · rw [← h]; exact hgk
    · intro hx; have := hlt _ hx; omega
  · rcases hnew4 with h | h
    · exact .inl (by simp [h])
    · exact .inr (by omega)

theorem old_eq (d b g n c : Nat) (A C : List (ByteArray × AT d)) (kk : ByteArray) (kid : AT d) :
    AT.blocks (d + 1) (⟨b, .slice (some ⟨g, 0, none⟩) n c, A ++ (kk, kid) :: C⟩ : Inner (AT d)) = b :: g :: (blocksL d A ++ (AT.blocks d kid ++ blocksL d C)) := by
  show b :: ([g] ++ blocksL d (A ++ (kk, kid) :: C)) = _
  rw [blocksL_append, blocksL_cons]; rfl

theorem put_end_in {lo d b g n c g4 cap4 : Nat} {A C : List (ByteArray × AT d)} {kk : ByteArray} {kid kid' : AT d} {r : AT d} {k v : ByteArray} {w w3 w5 : World}
    (m : Mid lo d b g n c A C kk kid kid' (some r) k v w w3) (hn : n < 4)
    (h : MidIn d b g4 (n + 1) cap4 (b :: g :: (blocksL d A ++ (AT.blocks d kid ++ blocksL d C))) (A ++ (headKey d kid', kid') :: (headKey d r, r) :: C) w w5) :
    PutEnd lo (d + 1) (⟨b, .slice (some ⟨g, 0, none⟩) n c, A ++ (kk, kid) :: C⟩ : Inner (AT d)) k v w (.returned (.tuple #[.pointer none, .bool (get k (segs (segsOf d (A ++ (kk, kid) :: C)))).isSome])) w5 := by
  refine put_inner_in (n := n + 1) (cap := cap4) (g' := g4) (by rw [old_eq]; exact h.kids) (mid_segs m) (by rw [m.hn]; simp; omega) ⟨by have := m.lo.1; omega, by omega⟩ h.hb h.ho h.hg (by rw [old_eq]; exact h.hg2)

theorem put_end_split {lo d b g n c c1 c2 k1 k2 N : Nat} {A C : List (ByteArray × AT d)} {kk : ByteArray} {kid kid' : AT d} {r : AT d} {k v : ByteArray} {w w3 w5 w6 w7 : World} {g4 cap4 : Nat}
    (m : Mid lo d b g n c A C kk kid kid' (some r) k v w w3) (hn : n = 4) (hbl : b < w.heap.size)
    (h : MidIn d b g4 (n + 1) cap4 (b :: g :: (blocksL d A ++ (AT.blocks d kid ++ blocksL d C))) (A ++ (headKey d kid', kid') :: (headKey d r, r) :: C) w w5)
    (ho1 : w6.ownsRow 0 54 2 (.slice (some ⟨k1, 0, none⟩) 2 c1) 2 ((kidCells d (A ++ (headKey d kid', kid') :: (headKey d r, r) :: C)).take 4))
    (ho2 : w6.ownsRow 0 54 2 (.slice (some ⟨k2, 0, none⟩) 3 c2) 3 ((kidCells d (A ++ (headKey d kid', kid') :: (headKey d r, r) :: C)).drop 4))
    (hb6 : w6.heap[b]? = some (.cells #[.slice none 0 0, .slice (some ⟨k1, 0, none⟩) 2 c1] 62 (0, 0))) (hc6 : Chg (· = b) w5 w6) (hk1 : w5.heap.size ≤ k1) (hk2 : w5.heap.size ≤ k2) (h12 : k1 ≠ k2)
    (hN : N = w6.heap.size) (h7 : w7 = w6.alloc (.cells #[.slice none 0 0, .slice (some ⟨k2, 0, none⟩) 3 c2] 62 (0, 0))) :
    PutEnd lo (d + 1) (⟨b, .slice (some ⟨g, 0, none⟩) n c, A ++ (kk, kid) :: C⟩ : Inner (AT d)) k v w (.returned (.tuple #[.pointer (some ⟨N, 0, none⟩), .bool (get k (segs (segsOf d (A ++ (kk, kid) :: C)))).isSome])) w7 := by
  subst hN h7
  have hbk := (List.nodup_cons.1 h.kids.nodup).1
  have hs5 : w.heap.size ≤ w5.heap.size := h.kids.chg.size
  have hs6 := hc6.size
  have K6 := h.kids.chgd hc6 (fun x hx e => hbk (e ▸ hx)) (fun x _ e => by simp [show x = b from e])
  have K7 := K6.chgd (Chg.alloc (S := fun _ => False) w6 (.cells #[.slice none 0 0, .slice (some ⟨k2, 0, none⟩) 3 c2] 62 (0, 0))) (fun _ _ e => e) (fun _ _ e => e.elim)
  have hl1 := (ho1.lt k1 rfl).2
  have hl2 := (ho2.lt k2 rfl).2
  have e1 : (kidCells d (A ++ (headKey d kid', kid') :: (headKey d r, r) :: C)).take 4 = kidCells d ((A ++ (headKey d kid', kid') :: (headKey d r, r) :: C).take 2) := kidCells_take d _ 2
  have e2 : (kidCells d (A ++ (headKey d kid', kid') :: (headKey d r, r) :: C)).drop 4 = kidCells d ((A ++ (headKey d kid', kid') :: (headKey d r, r) :: C).drop 2) := kidCells_drop d _ 2
  rw [e1] at ho1
  rw [e2] at ho2
  refine put_inner_split (by rw [old_eq]; exact K7) (mid_segs m) (by have := m.hn; simp; omega) m.lo.2.2 ((heap_alloc_old w6 _ (by omega)).trans hb6) (heap_alloc_new w6 _) (ho1.alloc _) (ho2.alloc _) w5.heap.size ?_ ⟨hk1, hk2, hs6, h12, by omega, by omega⟩ hs5
  intro x hx
  rcases List.mem_cons.1 hx with rfl | hx
  · omega
  · exact h.kids.lt x hx

end Go.Proofs.Ytempbaflcbmcpaa
