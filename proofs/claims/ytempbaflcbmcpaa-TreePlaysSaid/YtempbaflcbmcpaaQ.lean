/- Inner nodes: the stages of a drop. -/
import Derived.Test.YtempbaflcbmcpaaR
namespace Go.Proofs.Ytempbaflcbmcpaa
open Go.RowKit

structure Stage (d b g n c : Nat) (old : List Nat) (ks : List (ByteArray × AT d)) (ex : Option (AT d)) (w w' : World) : Prop where
  lies : ∀ x ∈ ks, Lies w' d x.2
  exl : ∀ x, ex = some x → Lies w' d x
  hl : ks.length = n
  hb : w'.heap[b]? = some (.cells #[.slice none 0 0, .slice (some ⟨g, 0, none⟩) n c] 62 (0, 0))
  ho : w'.ownsRow 0 54 2 (.slice (some ⟨g, 0, none⟩) n c) n (kidCells d ks)
  nodup : (b :: g :: (blocksL d ks ++ restB d ex)).Nodup
  new : ∀ x ∈ b :: g :: (blocksL d ks ++ restB d ex), x ∈ old ∨ w.heap.size ≤ x
  chg : Chg (· ∈ old) w w'
  bold : b ∈ old

theorem Stage.mem {d b g n c : Nat} {old : List Nat} {ks : List (ByteArray × AT d)} {ex : Option (AT d)} {w w' : World} (_ : Stage d b g n c old ks ex w w') {x : ByteArray × AT d} (hx : x ∈ ks) : ∀ k ∈ AT.blocks d x.2, k ∈ blocksL d ks := fun k hk => by
  unfold blocksL; rw [List.mem_flatMap]; exact ⟨x, hx, hk⟩
theorem Stage.lt {d b g n c : Nat} {old : List Nat} {ks : List (ByteArray × AT d)} {ex : Option (AT d)} {w w' : World} (S : Stage d b g n c old ks ex w w') : ∀ x ∈ b :: g :: (blocksL d ks ++ restB d ex), x < w'.heap.size := by
  intro x hx
  rcases List.mem_cons.1 hx with rfl | hx
  · exact lt_of_heap S.hb
  · rcases List.mem_cons.1 hx with rfl | hx
    · exact (S.ho.lt _ rfl).2
    · rcases List.mem_append.1 hx with hx | hx
      · unfold blocksL at hx
        rw [List.mem_flatMap] at hx
        obtain ⟨y, hy, hx⟩ := hx
        exact (S.lies y hy).lt d y.2 x hx
      · cases ex with
        | none => cases hx
        | some r => exact (S.exl r rfl).lt d r x hx
/-- What leaves a stage's blocks leaves the stage. -/
theorem Stage.far {d b g n c : Nat} {old : List Nat} {ks : List (ByteArray × AT d)} {ex : Option (AT d)} {w w' w'' : World} (S : Stage d b g n c old ks ex w w') {T : Nat → Prop} (hc : Chg T w' w'') (h1 : ∀ x ∈ b :: g :: (blocksL d ks ++ restB d ex), ¬ T x) (h2 : ∀ x, x < w.heap.size → T x → x ∈ old) : Stage d b g n c old ks ex w w'' :=
  ⟨fun x hx => (S.lies x hx).chg hc d x.2 (fun k hk => h1 k (by simp [S.mem hx k hk])), fun x hx => (S.exl x hx).chg hc d x (fun k hk => h1 k (by rw [hx]; simp [restB, hk])), S.hl, hc.at S.hb (h1 b (by simp)),
    ownsRow_chg hc S.ho (fun k hk => by cases hk; exact h1 g (by simp)), S.nodup, S.new, S.chg.trans hc (fun i hi hs => h2 i hi hs), S.bold⟩

/-- The key of a kid set anew. -/
theorem Stage.key {d b g n c : Nat} {old : List Nat} {A C : List (ByteArray × AT d)} {ka : ByteArray} {l : AT d} {ex : Option (AT d)} {w W : World} (S : Stage d b g n c old (A ++ (ka, l) :: C) ex w W) (hg : g ∈ old ∨ w.heap.size ≤ g) :
    Stage d b g n c old (A ++ (headKey d l, l) :: C) ex w (W.drew.setCell ⟨g, A.length * 2, none⟩ (.string (headKey d l))) := by
  have hc : Chg (· = g) W (W.drew.setCell ⟨g, A.length * 2, none⟩ (.string (headKey d l))) :=
    (Chg.drew _ _).trans (Chg.setCell (S := (· = g)) (p := ⟨g, A.length * 2, none⟩) (fun _ => rfl) _) (fun _ _ h => h)
  have hnd := S.nodup
  rw [List.nodup_cons, List.nodup_cons] at hnd
  have hbg : b ≠ g := fun e => hnd.1 (by simp [e])
  have hbl : blocksL d (A ++ (headKey d l, l) :: C) = blocksL d (A ++ (ka, l) :: C) := by rw [blocksL_append, blocksL_cons, blocksL_append, blocksL_cons]
  refine ⟨?_, ?_, ?_, hc.at S.hb (fun e => hbg e), ?_, by rw [hbl]; exact S.nodup, by rw [hbl]; exact S.new, ?_, S.bold⟩
  · intro x hx
    have hx' : ∃ y ∈ A ++ (ka, l) :: C, y.2 = x.2 := by
      rcases List.mem_append.1 hx with hx | hx
      · exact ⟨x, by simp [hx], rfl⟩
      · rcases List.mem_cons.1 hx with rfl | hx
        · exact ⟨(ka, l), by simp, rfl⟩
        · exact ⟨x, by simp [hx], rfl⟩
    obtain ⟨y, hy, e⟩ := hx'
    rw [← e]
    exact (S.lies y hy).chg hc d y.2 (fun k hk e => hnd.2.1 (by rw [← show k = g from e]; simp [S.mem hy k hk]))
  · intro x hx
    exact (S.exl x hx).chg hc d x (fun k hk e => hnd.2.1 (by rw [← show k = g from e, hx]; simp [restB, hk]))
  · have := S.hl; simpa using this
  · have hset := ownsRow_set (w := W.drew) (j := A.length * 2) (ownsRow_chg (Chg.drew (fun _ => False) W) S.ho (fun _ _ h => h)) (by have := S.hl; simp at this; omega) (.string (headKey d l))
    rw [kidCells_set_key] at hset
    exact hset
  · refine S.chg.trans hc (fun i hi e => ?_)
    rcases hg with h | h
    · rw [show i = g from e]; exact h
    · have : i = g := e
      omega

theorem stage_end {d b g n c lo : Nat} {tv : Value} {ks0 ks : List (ByteArray × AT d)} {k : ByteArray} {w W : World} (S : Stage d b g n c (AT.blocks (d + 1) (⟨b, tv, ks0⟩ : Inner (AT d))) ks none w W)
    (hwf : ∀ x ∈ ks, WF 2 d x.2) (hk : Keyed (segsOf d ks)) (hn : lo - 1 ≤ n ∧ n ≤ 4) (hlo : get k (segs (segsOf d ks0)) = none → lo ≤ n) (hseg : segs (segsOf d ks) = del k (segs (segsOf d ks0))) :
    DropEnd lo (d + 1) (⟨b, tv, ks0⟩ : Inner (AT d)) k w (.returned (.bool (get k (segs (segsOf d ks0))).isSome)) W := by
  have hl := S.hl
  have e0 := toL_inner d ⟨b, tv, ks0⟩
  have e1 := toL_inner d ⟨b, .slice (some ⟨g, 0, none⟩) n c, ks⟩
  simp only at e0 e1
  refine ⟨(⟨b, .slice (some ⟨g, 0, none⟩) n c, ks⟩ : Inner (AT d)), ?_, rfl, ⟨S.hb, ?_, S.lies⟩, ⟨?_, ?_, hk, hwf⟩, ?_, ?_, ?_, ?_, S.chg⟩
  · show _ = Ending.returned (.bool (get k (AT.toL (d + 1) _)).isSome)
    rw [e0]
  · show World.ownsRow _ 0 54 2 _ ks.length _
    rw [hl]; exact S.ho
  · show lo - 1 ≤ ks.length
    omega
  · show ks.length ≤ 4
    omega
  · intro h
    replace h : get k (AT.toL (d + 1) (⟨b, tv, ks0⟩ : Inner (AT d))) = none := h
    rw [e0] at h
    refine ⟨?_, ?_, hk, hwf⟩
    · show lo ≤ ks.length
      rw [hl]; exact hlo h
    · show ks.length ≤ 4
      omega
  · show AT.toL (d + 1) _ = del k (AT.toL (d + 1) _)
    rw [e0, e1, hseg]
  · show (b :: ([g] ++ blocksL d ks)).Nodup
    have := S.nodup
    rw [restB, List.append_nil] at this
    exact this
  · intro x hx
    replace hx : x ∈ b :: ([g] ++ blocksL d ks) := hx
    refine S.new x ?_
    rw [restB, List.append_nil]
    exact hx

/-- Behind the drop below a kid. -/
theorem stage_mk {d b g n c : Nat} {A C : List (ByteArray × AT d)} {kk : ByteArray} {kid kid' : AT d} {w w1 w2 : World}
    (hkn : (A ++ (kk, kid) :: C).length = n) (hkids : ∀ x ∈ A ++ (kk, kid) :: C, Lies w d x.2 ∧ WF 2 d x.2)
    (hnd : (b :: g :: blocksL d (A ++ (kk, kid) :: C)).Nodup) (hb1 : Below w.heap.size w w1) (hbl : b < w.heap.size) (hgl : g < w.heap.size)
    (hb2 : w2.heap[b]? = some (.cells #[.slice none 0 0, .slice (some ⟨g, 0, none⟩) n c] 62 (0, 0))) (ho2 : w2.ownsRow 0 54 2 (.slice (some ⟨g, 0, none⟩) n c) n (kidCells d (A ++ (kk, kid) :: C)))
    (hkb : AT.b d kid' = AT.b d kid) (hkl2 : Lies w2 d kid') (hnd2 : (AT.blocks d kid').Nodup) (hnew2 : ∀ x ∈ AT.blocks d kid', x ∈ AT.blocks d kid ∨ w1.heap.size ≤ x) (hch2 : Chg (· ∈ AT.blocks d kid) w1 w2) :
    Stage d b g n c (AT.blocks (d + 1) (⟨b, .slice (some ⟨g, 0, none⟩) n c, A ++ (kk, kid) :: C⟩ : Inner (AT d))) (A ++ (kk, kid') :: C) none w w2 := by
  rw [old_eq]
  have hs1 := hb1.size
  have hnd' := hnd
  rw [blocksL_append, blocksL_cons] at hnd'
  have hmem : ∀ {x : ByteArray × AT d} {l : List (ByteArray × AT d)}, x ∈ l → ∀ k ∈ AT.blocks d x.2, k ∈ blocksL d l := fun {x l} hx k hk => by
    unfold blocksL; rw [List.mem_flatMap]; exact ⟨x, hx, hk⟩
  have hlt : ∀ l : List (ByteArray × AT d), (∀ x ∈ l, x ∈ A ++ (kk, kid) :: C) → ∀ x ∈ blocksL d l, x < w1.heap.size := by
    intro l hl x hx
    unfold blocksL at hx
    rw [List.mem_flatMap] at hx
    obtain ⟨y, hy, hx⟩ := hx
    have := (hkids y (hl y hy)).1.lt d y.2 x hx
    omega
  have hbs : ∀ x ∈ b :: g :: blocksL d A, x < w1.heap.size := by
    intro x hx
    rcases List.mem_cons.1 hx with rfl | hx
    · omega
    · rcases List.mem_cons.1 hx with rfl | hx
      · omega
      · exact hlt A (fun x hx => by simp [hx]) x hx
  have hnd3 : ((b :: g :: blocksL d A) ++ (AT.blocks d kid' ++ blocksL d C)).Nodup :=
    nodup_replace (A := b :: g :: blocksL d A) (B := AT.blocks d kid) (C := blocksL d C) (N := w1.heap.size) hnd' hbs (hlt C (fun x hx => by simp [hx])) hnd2 hnew2
  have hn3 := hnd'
  rw [List.nodup_cons, List.nodup_cons, List.nodup_append, List.nodup_append] at hn3
  obtain ⟨q1, q2, q3, ⟨q4, q5, q6⟩, q7⟩ := hn3
  refine ⟨?_, by simp, by rw [← hkn]; simp, hb2, by rw [kidCells_same d A C kk kid' kid hkb]; exact ho2, ?_, ?_, ?_, by simp⟩
  · intro x hx
    have hoth : x ∈ A ∨ x ∈ C → Lies w2 d x.2 := by
      intro hx
      have h0 := hkids x (by rcases hx with hx | hx <;> simp [hx])
      have h1 : Lies w1 d x.2 := h0.1.chg (below_chg hb1) d x.2 (fun _ _ h => h)
      exact h1.chg hch2 d x.2 (fun y hy hyk => by
        rcases hx with hx | hx
        · exact q7 y (hmem hx y hy) y (by simp [hyk]) rfl
        · exact q6 y hyk y (hmem hx y hy) rfl)
    rcases List.mem_append.1 hx with hx | hx
    · exact hoth (.inl hx)
    · rcases List.mem_cons.1 hx with rfl | hx
      · exact hkl2
      · exact hoth (.inr hx)
  · rw [restB, List.append_nil, blocksL_append, blocksL_cons]; exact hnd3
  · intro x hx
    rw [restB, List.append_nil, blocksL_append, blocksL_cons] at hx
    have hnew := hnew2 x
    simp only [List.mem_cons, List.mem_append] at hx ⊢
    rcases hx with h | h | h | h | h
    · exact .inl (.inl h)
    · exact .inl (.inr (.inl h))
    · exact .inl (.inr (.inr (.inl h)))
    · rcases hnew h with h | h
      · exact .inl (.inr (.inr (.inr (.inl h))))
      · exact .inr (by omega)
    · exact .inl (.inr (.inr (.inr (.inr h))))
  · exact (Chg.of_below hb1).trans hch2 (fun i _ h => by simp [h])

/-- Behind the join of two neighbours: what the right one had is the left one's, or the new one's. -/
theorem stage_join {d b g n c : Nat} {old : List Nat} {A C : List (ByteArray × AT d)} {ka kb : ByteArray} {l r l' : AT d} {r' : Option (AT d)} {w W W4 : World}
    (S : Stage d b g n c old (A ++ (ka, l) :: (kb, r) :: C) none w W) (hkb : AT.b d l' = AT.b d l) (hl4 : Lies W4 d l') (hr4 : ∀ x, r' = some x → Lies W4 d x) (hnd4 : (AT.blocks d l' ++ restB d r').Nodup)
    (hnew4 : ∀ x ∈ AT.blocks d l' ++ restB d r', x ∈ AT.blocks d l ++ AT.blocks d r ∨ W.heap.size ≤ x) (hch4 : Chg (· ∈ AT.blocks d l) W W4) :
    W4.heap[b]? = some (.cells #[.slice none 0 0, .slice (some ⟨g, 0, none⟩) n c] 62 (0, 0)) ∧ W4.ownsRow 0 54 2 (.slice (some ⟨g, 0, none⟩) n c) n (kidCells d (A ++ (ka, l') :: (kb, r) :: C)) ∧
    ∀ (W6 : World) (m c' : Nat), n = m + 1 → Chg (fun x => x = b ∨ x = g) W4 W6 → W6.heap[b]? = some (.cells #[.slice none 0 0, .slice (some ⟨g, 0, none⟩) m c'] 62 (0, 0)) →
      W6.ownsRow 0 54 2 (.slice (some ⟨g, 0, none⟩) m c') m (delCells (kidCells d (A ++ (ka, l') :: (kb, r) :: C)) (A.length + 1)) → Stage d b g m c' old (A ++ (ka, l') :: C) r' w W6 := by
  have hnd := S.nodup
  rw [restB, List.append_nil, blocksL_append, blocksL_cons, blocksL_cons] at hnd
  have hnd' : ((b :: g :: blocksL d A) ++ ((AT.blocks d l ++ AT.blocks d r) ++ blocksL d C)).Nodup := by simpa using hnd
  have hlt := S.lt
  rw [restB, List.append_nil, blocksL_append, blocksL_cons, blocksL_cons] at hlt
  have hnew := S.new
  rw [restB, List.append_nil, blocksL_append, blocksL_cons, blocksL_cons] at hnew
  have hnd3 : ((b :: g :: blocksL d A) ++ ((AT.blocks d l' ++ restB d r') ++ blocksL d C)).Nodup :=
    nodup_replace (A := b :: g :: blocksL d A) (B := AT.blocks d l ++ AT.blocks d r) (C := blocksL d C) (N := W.heap.size) hnd' (fun x hx => hlt x (by
      simp only [List.mem_cons, List.mem_append] at hx ⊢
      rcases hx with h | h | h
      · exact .inl h
      · exact .inr (.inl h)
      · exact .inr (.inr (.inl h)))) (fun x hx => hlt x (by simp [hx])) hnd4 hnew4
  have hn3 := hnd
  rw [List.nodup_cons, List.nodup_cons, List.nodup_append, List.nodup_append, List.nodup_append] at hn3
  obtain ⟨q1, q2, q3, ⟨q4, ⟨q5, q6, q7⟩, q8⟩, q9⟩ := hn3
  have hbg : b ≠ g := fun e => q1 (by simp [e])
  have hbl : b ∉ AT.blocks d l := fun h => q1 (by simp [h])
  have hgl : g ∉ AT.blocks d l := fun h => q2 (by simp [h])
  have hswW : w.heap.size ≤ W.heap.size := S.chg.size
  have ho4 := ownsRow_chg hch4 S.ho (fun x hx => by cases hx; exact hgl)
  rw [kidCells_same d A ((kb, r) :: C) ka l l' hkb.symm] at ho4
  refine ⟨hch4.at S.hb hbl, ho4, ?_⟩
  intro W6 m c' hm hc6 hb6 ho6
  have e : delCells (kidCells d (A ++ (ka, l') :: (kb, r) :: C)) (A.length + 1) = kidCells d (A ++ (ka, l') :: C) := by
    unfold kidCells
    rw [del_cellsOf, ← List.map_take, ← List.map_drop, ← List.map_append]
    congr 2
    have t1 : (A ++ (ka, l') :: (kb, r) :: C).take (A.length + 1) = A ++ [(ka, l')] := by rw [List.take_length_add_append]; simp
    have t2 : (A ++ (ka, l') :: (kb, r) :: C).drop (A.length + 1 + 1) = C := by
      rw [show A.length + 1 + 1 = A.length + 2 by omega, List.drop_length_add_append]; simp
    rw [t1, t2]; simp
  rw [e] at ho6
  have hnd5 := hnd3
  have hn5 := hnd3
  rw [List.cons_append, List.cons_append, List.nodup_cons, List.nodup_cons] at hn5
  have hfar : ∀ x ∈ blocksL d A ++ ((AT.blocks d l' ++ restB d r') ++ blocksL d C), ¬ (x = b ∨ x = g) := by
    intro x hx e
    rcases e with e | e
    · exact hn5.1 (by rw [← e]; exact List.mem_cons_of_mem _ hx)
    · exact hn5.2.1 (by rw [← e]; exact hx)
  have hmem : ∀ {x : ByteArray × AT d} {l : List (ByteArray × AT d)}, x ∈ l → ∀ k ∈ AT.blocks d x.2, k ∈ blocksL d l := fun {x l} hx k hk => by
    unfold blocksL; rw [List.mem_flatMap]; exact ⟨x, hx, hk⟩
  have hoth : ∀ x, x ∈ A ∨ x ∈ C → Lies W6 d x.2 := by
    intro x hx
    have h0 := S.lies x (by rcases hx with hx | hx <;> simp [hx])
    have h1 : Lies W4 d x.2 := h0.chg hch4 d x.2 (fun y hy hyl => by
      rcases hx with hx | hx
      · exact q9 y (hmem hx y hy) y (by simp [hyl]) rfl
      · exact q8 y hyl y (by simp [hmem hx y hy]) rfl)
    exact h1.chg hc6 d x.2 (fun y hy => hfar y (by rcases hx with hx | hx <;> simp [hmem hx y hy]))
  refine ⟨?_, ?_, ?_, hb6, ho6, ?_, ?_, ?_, S.bold⟩
  · intro x hx
    rcases List.mem_append.1 hx with hx | hx
    · exact hoth x (.inl hx)
    · rcases List.mem_cons.1 hx with rfl | hx
      · exact hl4.chg hc6 d l' (fun y hy => hfar y (by simp [hy]))
      · exact hoth x (.inr hx)
  · intro x hx
    exact (hr4 x hx).chg hc6 d x (fun y hy => hfar y (by rw [hx]; simp [restB, hy]))
  · have := S.hl; simp at this ⊢; omega
  · rw [blocksL_append, blocksL_cons]
    have hp : (b :: g :: ((blocksL d A ++ (AT.blocks d l' ++ blocksL d C)) ++ restB d r')).Perm ((b :: g :: blocksL d A) ++ ((AT.blocks d l' ++ restB d r') ++ blocksL d C)) := by
      rw [List.cons_append, List.cons_append, List.append_assoc, List.append_assoc, List.append_assoc]
      exact ((List.perm_append_comm.append_left _).append_left _).cons _ |>.cons _
    exact hp.nodup_iff.2 hnd3
  · intro x hx
    rw [blocksL_append, blocksL_cons] at hx
    have h1 := hnew x
    have h2 := hnew4 x
    simp only [List.mem_cons, List.mem_append] at hx h1 h2
    rcases hx with h | h | (h | h | h) | h
    · exact h1 (.inl h)
    · exact h1 (.inr (.inl h))
    · exact h1 (.inr (.inr (.inl h)))
    · rcases h2 (.inl h) with (h | h) | h
      · exact h1 (.inr (.inr (.inr (.inl h))))
      · exact h1 (.inr (.inr (.inr (.inr (.inl h)))))
      · exact .inr (by omega)
    · exact h1 (.inr (.inr (.inr (.inr (.inr h)))))
    · rcases h2 (.inr h) with (h | h) | h
      · exact h1 (.inr (.inr (.inr (.inl h))))
      · exact h1 (.inr (.inr (.inr (.inr (.inl h)))))
      · exact .inr (by omega)
  · refine (S.chg.trans hch4 (fun i hi h => ?_)).trans hc6 (fun i hi h => ?_)
    · rcases hnew i (by simp [h]) with h | h
      · exact h
      · omega
    · rcases h with rfl | rfl
      · exact S.bold
      · rcases hnew i (by simp) with h | h
        · exact h
        · omega

/-- The new one is put behind. -/
theorem stage_ins {d b g n c g4 c4 : Nat} {old : List Nat} {A C : List (ByteArray × AT d)} {ka : ByteArray} {l r : AT d} {w W W0 W4 : World}
    (S : Stage d b g n c old (A ++ (ka, l) :: C) (some r) w W)
    (hW0 : Chg (fun _ => False) W W0) {i : Nat} (hi : A.length = i) (ho4 : W4.ownsRow 0 54 2 (.slice (some ⟨g4, 0, none⟩) (n + 1) c4) (n + 1) (insCells (kidCells d (A ++ (ka, l) :: C)) (i + 1) (.string (headKey d r)) (ptr (AT.b d r))))
    (hch4 : Chg (fun x => (Value.slice (some ⟨g, 0, none⟩) n c).ownBlock = some x) W0 W4) (hnew4 : g = g4 ∨ W0.heap.size ≤ g4) :
    W4.heap[b]? = some (.cells #[.slice none 0 0, .slice (some ⟨g, 0, none⟩) n c] 62 (0, 0)) ∧
    Stage d b g4 (n + 1) c4 old (A ++ (ka, l) :: (headKey d r, r) :: C) none w (W4.setCell ⟨b, 1, none⟩ (.slice (some ⟨g4, 0, none⟩) (n + 1) c4)) := by
  subst hi
  have hnd := S.nodup
  rw [List.nodup_cons, List.nodup_cons] at hnd
  obtain ⟨q1, q2, q3⟩ := hnd
  have hbg : b ≠ g := fun e => q1 (by simp [e])
  have hc4 : Chg (· = g) W W4 := (hW0.mono (fun _ _ h => h.elim)).trans hch4 (fun x _ h => by cases h; rfl)
  have hb4 := hc4.at S.hb (fun e => hbg e)
  have hs0 := hW0.size
  have hsw := S.chg.size
  have hlt := S.lt
  have hgb : g4 ≠ b := by
    rcases hnew4 with h | h
    · rw [← h]; exact hbg.symm
    · have := lt_of_heap S.hb; omega
  have hg4k : g4 ∉ blocksL d (A ++ (ka, l) :: C) ++ restB d (some r) := by
    rcases hnew4 with h | h
    · rw [← h]; exact q2
    · intro hx; have := hlt g4 (by simp only [List.mem_cons]; exact .inr (.inr hx)); omega
  have hc5 : Chg (· = b) W4 (W4.setCell ⟨b, 1, none⟩ (.slice (some ⟨g4, 0, none⟩) (n + 1) c4)) := Chg.setCell (S := (· = b)) (p := ⟨b, 1, none⟩) (fun _ => rfl) _
  have hp : (blocksL d (A ++ (ka, l) :: (headKey d r, r) :: C)).Perm (blocksL d (A ++ (ka, l) :: C) ++ restB d (some r)) := by
    rw [blocksL_append, blocksL_cons, blocksL_cons, blocksL_append, blocksL_cons, List.append_assoc, List.append_assoc]
    exact ((List.perm_append_comm).append_left _).append_left _
  have hfar : ∀ x ∈ blocksL d (A ++ (ka, l) :: C) ++ restB d (some r), ¬ x = g ∧ ¬ x = b := fun x hx => ⟨fun e => q2 (e ▸ hx), fun e => q1 (by rw [← e]; exact List.mem_cons_of_mem _ hx)⟩
  have hlies : ∀ y : AT d, Lies W d y → (∀ k ∈ AT.blocks d y, k ∈ blocksL d (A ++ (ka, l) :: C) ++ restB d (some r)) → Lies (W4.setCell ⟨b, 1, none⟩ (.slice (some ⟨g4, 0, none⟩) (n + 1) c4)) d y := fun y hy hk =>
    (hy.chg hc4 d y (fun k hk' => (hfar k (hk k hk')).1)).chg hc5 d y (fun k hk' => (hfar k (hk k hk')).2)
  refine ⟨hb4, ⟨?_, by simp, ?_, heap_setCell W4 b 1 _ 62 _ hb4, ?_, ?_, ?_, ?_, S.bold⟩⟩
  · intro x hx
    rcases List.mem_append.1 hx with hx | hx
    · exact hlies x.2 (S.lies x (by simp [hx])) (fun k hk => by simp [S.mem (x := x) (by simp [hx]) k hk])
    · rcases List.mem_cons.1 hx with rfl | hx
      · exact hlies l (S.lies (ka, l) (by simp)) (fun k hk => by simp [S.mem (x := (ka, l)) (by simp) k hk])
      · rcases List.mem_cons.1 hx with rfl | hx
        · exact hlies r (S.exl r rfl) (fun k hk => by simp [restB, hk])
        · exact hlies x.2 (S.lies x (by simp [hx])) (fun k hk => by simp [S.mem (x := x) (by simp [hx]) k hk])
  · have := S.hl; simp at this ⊢; omega
  · have h := ownsRow_chg hc5 ho4 (fun x hx => by cases hx; exact hgb)
    rw [kidCells_ins] at h
    have e1 : (A ++ (ka, l) :: C).take (A.length + 1) = A ++ [(ka, l)] := by rw [List.take_length_add_append]; simp
    have e2 : (A ++ (ka, l) :: C).drop (A.length + 1) = C := by rw [List.drop_length_add_append]; simp
    rw [e1, e2, List.append_assoc] at h
    exact h
  · rw [restB, List.append_nil, List.nodup_cons, List.nodup_cons]
    refine ⟨?_, fun h => hg4k (hp.mem_iff.1 h), hp.nodup_iff.2 q3⟩
    rw [List.mem_cons, not_or]
    exact ⟨hgb.symm, fun h => q1 (List.mem_cons_of_mem _ (hp.mem_iff.1 h))⟩
  · intro x hx
    rw [restB, List.append_nil] at hx
    rcases List.mem_cons.1 hx with rfl | hx
    · exact .inl S.bold
    · rcases List.mem_cons.1 hx with rfl | hx
      · rcases hnew4 with h | h
        · exact S.new _ (by simp [h])
        · exact .inr (by omega)
      · exact S.new x (by simp only [List.mem_cons]; exact .inr (.inr (hp.mem_iff.1 hx)))
  · refine (S.chg.trans hc4 (fun i hi e => ?_)).trans hc5 (fun i hi e => by rw [show i = b from e]; exact S.bold)
    rcases S.new g (by simp) with h | h
    · rw [show i = g from e]; exact h
    · have : i = g := e
      omega

theorem stage_row {d b g n c : Nat} {old : List Nat} {ks : List (ByteArray × AT d)} {ex : Option (AT d)} {w W : World} (S : Stage d b g n c old ks ex w W) :
    W.cell? ⟨b, 1, none⟩ = some (.slice (some ⟨g, 0, none⟩) n c) ∧ W.frozen? ⟨b, 1, none⟩ = false ∧ (∀ j, W.frozen? ⟨g, j, none⟩ = false) ∧ ∀ (A C : List (ByteArray × AT d)) (ka : ByteArray) (l : AT d), ks = A ++ (ka, l) :: C →
      W.cell? ⟨g, A.length * 2, none⟩ = some (.string ka) ∧ W.cell? ⟨g, A.length * 2 + 1, none⟩ = some (.pointer (some ⟨AT.b d l, 0, none⟩)) := by
  have hf : ∀ j, W.frozen? ⟨g, j, none⟩ = false := by
    rcases S.ho.2 with ⟨h, _⟩ | ⟨g', _, _, h, _, hg, _⟩
    · cases h
    · cases h; exact fun j => free_at hg j
  refine ⟨cell_at S.hb 1, free_at S.hb 1, hf, ?_⟩
  intro A C ka l e
  have hcell : ∀ (j : Nat) (u : Value), (kidCells d ks)[j]? = some u → W.cell? ⟨g, j, none⟩ = some u := fun j u hj => by
    have := S.ho.cells (g := g) rfl j u hj
    rwa [Addr.add_lit, Nat.zero_add] at this
  subst e
  have h1 := hcell _ _ (kidCells_key d (A ++ (ka, l) :: C) A.length (by simp))
  have h2 := hcell _ _ (kidCells_val d (A ++ (ka, l) :: C) A.length (by simp))
  simp [ptr] at h1 h2
  exact ⟨h1, h2⟩

/-- A drop's end behind the key of the kid set anew. -/
theorem drop_fin {d b g n c : Nat} {tv : Value} {ks0 A C : List (ByteArray × AT d)} {ka : ByteArray} {l : AT d} {k : ByteArray} {w W : World}
    (S : Stage d b g n c (AT.blocks (d + 1) (⟨b, tv, ks0⟩ : Inner (AT d))) (A ++ (ka, l) :: C) none w W)
    (hwf : (∀ x ∈ A, WF 2 d x.2) ∧ (∀ x ∈ C, WF 2 d x.2) ∧ WF 2 d l) (hk : Keyed (segsOf d A) ∧ Keyed (segsOf d C)) (hn : 1 ≤ n ∧ n ≤ 4) (hg : get k (segs (segsOf d ks0)) ≠ none)
    (hseg : segs (segsOf d A) ++ (AT.toL d l ++ segs (segsOf d C)) = del k (segs (segsOf d ks0))) :
    DropEnd 2 (d + 1) (⟨b, tv, ks0⟩ : Inner (AT d)) k w (.returned (.bool true)) (W.drew.setCell ⟨g, A.length * 2, none⟩ (.string (headKey d l))) := by
  have h := stage_end (lo := 2) (k := k) (S.key (S.new g (by simp))) (fun x hx => by
      rcases List.mem_append.1 hx with hx | hx
      · exact hwf.1 x hx
      · rcases List.mem_cons.1 hx with rfl | hx
        · exact hwf.2.2
        · exact hwf.2.1 x hx)
    (keyed_append.2 ⟨hk.1, keyed_cons.2 ⟨headKey_cons d l (WF.mono (by omega) _ _ hwf.2.2), hk.2⟩⟩) hn (fun h => absurd h hg) (by rw [segsOf_append, segsOf_cons, segs_append, segs_cons]; exact hseg)
  cases hgk : get k (segs (segsOf d ks0)) with
  | none => exact absurd hgk hg
  | some v => rw [hgk] at h; exact h

/-- The two neighbours that are joined: the small kid and the one beside it. -/
structure Pair (d : Nat) (L A C : List (ByteArray × AT d)) (i : Nat) (ka kb : ByteArray) (l r : AT d) : Prop where
  split : L = A ++ (ka, l) :: (kb, r) :: C
  len : A.length = i
  wl : WF 1 d l
  wr : WF 1 d r
  sz : 2 ≤ AT.sz d l + AT.sz d r ∧ AT.sz d l + AT.sz d r ≤ 5
  wA : ∀ x ∈ A, WF 2 d x.2
  wC : ∀ x ∈ C, WF 2 d x.2
  kA : Keyed (segsOf d A)
  kC : Keyed (segsOf d C)

theorem wf_sz {lo : Nat} : ∀ (d : Nat) (t : AT d), WF lo d t → lo ≤ AT.sz d t ∧ AT.sz d t ≤ 4
  | 0, _, h => h
  | _ + 1, _, h => ⟨h.1, h.2.1⟩

theorem pair_right {d : Nat} {A C : List (ByteArray × AT d)} {kk : ByteArray} {kid' : AT d} (hC : C ≠ []) (hA : ∀ x ∈ A, WF 2 d x.2) (hC2 : ∀ x ∈ C, WF 2 d x.2) (hw : WF 1 d kid') (hs : AT.sz d kid' < 2) (kA : Keyed (segsOf d A)) (kC : Keyed (segsOf d C)) :
    ∃ C' kb r, Pair d (A ++ (kk, kid') :: C) A C' A.length kk kb kid' r := by
  cases C with
  | nil => exact absurd rfl hC
  | cons x C' =>
    have hx := hC2 x (by simp)
    have h1 := wf_sz d _ hx
    have h2 := wf_sz d _ hw
    exact ⟨C', x.1, x.2, rfl, rfl, hw, WF.mono (by omega) _ _ hx, ⟨by omega, by omega⟩, hA, fun y hy => hC2 y (by simp [hy]), kA, (keyed_cons.1 kC).2⟩
theorem pair_left {d : Nat} {A : List (ByteArray × AT d)} {kk : ByteArray} {kid' : AT d} {i : Nat} (hl : A.length = i + 1) (hA : ∀ x ∈ A, WF 2 d x.2) (hw : WF 1 d kid') (hs : AT.sz d kid' < 2) (kA : Keyed (segsOf d A)) :
    ∃ A' ka l, Pair d (A ++ (kk, kid') :: []) A' [] i ka kk l kid' := by
  obtain ⟨A', x, hAx⟩ : ∃ A' x, A = A' ++ [x] := by
    refine ⟨A.take i, A[i], ?_⟩
    have e := List.take_append_drop i A
    rw [List.drop_eq_getElem_cons (by omega), List.drop_eq_nil_of_le (by omega)] at e
    exact e.symm
  subst hAx
  have hx := hA x (by simp)
  have h1 := wf_sz d _ hx
  have h2 := wf_sz d _ hw
  refine ⟨A', x.1, x.2, by simp, by simpa using hl, WF.mono (by omega) _ _ hx, hw, ⟨by omega, by omega⟩, fun y hy => hA y (by simp [hy]), by simp, (keyed_append.1 kA).1, ?_⟩
  intro y hy; simp [segsOf] at hy

end Go.Proofs.Ytempbaflcbmcpaa
