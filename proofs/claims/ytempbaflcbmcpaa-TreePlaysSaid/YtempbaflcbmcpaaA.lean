/- Plain: keys in order, lists of keys with values, places in them. -/
import Derived.Laws.Strings
namespace Go.Proofs.Ytempbaflcbmcpaa

abbrev KV := List (ByteArray × ByteArray)
def lt (a b : ByteArray) : Bool := Op.bytesLess a.toList b.toList

theorem bl_irrefl : ∀ l : List UInt8, Op.bytesLess l l = false
  | [] => rfl
  | a :: l => by simp [Op.bytesLess, bl_irrefl l, UInt8.lt_irrefl]
theorem bl_trans : ∀ a b c : List UInt8, Op.bytesLess a b = true → Op.bytesLess b c = true → Op.bytesLess a c = true
  | a, [], c, h, _ => by cases a <;> simp [Op.bytesLess] at h
  | [], b :: y, [], _, h => by simp [Op.bytesLess] at h
  | [], _, _ :: _, _, _ => rfl
  | a :: x, b :: y, [], _, h => by simp [Op.bytesLess] at h
  | a :: x, b :: y, c :: z, h1, h2 => by
    simp only [Op.bytesLess, Bool.or_eq_true, decide_eq_true_eq, Bool.and_eq_true, beq_iff_eq] at h1 h2 ⊢
    rcases h1 with h1 | ⟨rfl, h1⟩
    · rcases h2 with h2 | ⟨rfl, h2⟩
      · exact .inl (UInt8.lt_trans h1 h2)
      · exact .inl h1
    · rcases h2 with h2 | ⟨rfl, h2⟩
      · exact .inl h2
      · exact .inr ⟨rfl, bl_trans x y z h1 h2⟩
theorem bl_total : ∀ a b : List UInt8, Op.bytesLess a b = false → Op.bytesLess b a = false → a = b
  | [], [], _, _ => rfl
  | [], _ :: _, h, _ => by simp [Op.bytesLess] at h
  | _ :: _, [], _, h => by simp [Op.bytesLess] at h
  | a :: x, b :: y, h1, h2 => by
    simp only [Op.bytesLess, Bool.or_eq_false_iff, decide_eq_false_iff_not, Bool.and_eq_false_iff, beq_eq_false_iff_ne] at h1 h2
    have hab : a = b := by
      have q1 : ¬ a.toNat < b.toNat := fun q => h1.1 (UInt8.lt_iff_toNat_lt.2 q)
      have q2 : ¬ b.toNat < a.toNat := fun q => h2.1 (UInt8.lt_iff_toNat_lt.2 q)
      exact UInt8.toNat_inj.1 (by omega)
    subst hab
    rw [bl_total x y (h1.2.resolve_left (by simp)) (h2.2.resolve_left (by simp))]

theorem toList_inj {a b : ByteArray} (h : a.toList = b.toList) : a = b := by
  rw [ByteArray.toList_eq, ByteArray.toList_eq] at h
  exact ByteArray.ext (Array.toList_inj.1 h)

theorem lt_irrefl (a : ByteArray) : lt a a = false := bl_irrefl _
theorem lt_trans {a b c : ByteArray} (h : lt a b = true) (k : lt b c = true) : lt a c = true := bl_trans _ _ _ h k
theorem lt_total {a b : ByteArray} (h : lt a b = false) (k : lt b a = false) : a = b := toList_inj (bl_total _ _ h k)
theorem lt_asymm {a b : ByteArray} (h : lt a b = true) : lt b a = false := by
  cases hb : lt b a
  · rfl
  · have := lt_trans h hb; rw [lt_irrefl] at this; cases this
theorem lt_ne {a b : ByteArray} (h : lt a b = true) : a ≠ b := by rintro rfl; rw [lt_irrefl] at h; cases h
theorem le_lt {a b c : ByteArray} (h : lt b a = false) (k : lt b c = true) : lt a c = true := by
  cases hab : lt a b
  · rw [lt_total hab h]; exact k
  · exact lt_trans hab k
theorem lt_le {a b c : ByteArray} (h : lt a b = true) (k : lt c b = false) : lt a c = true := by
  cases hbc : lt b c
  · rw [← lt_total hbc k]; exact h
  · exact lt_trans h hbc

def Srt (l : KV) : Prop := l.Pairwise (fun x y => lt x.1 y.1 = true)

def ins (k v : ByteArray) : KV → KV
  | [] => [(k, v)]
  | x :: r => if lt k x.1 = true then (k, v) :: x :: r else if x.1 = k then (k, v) :: r else x :: ins k v r
def del (k : ByteArray) (l : KV) : KV := l.filter fun x => ! decide (x.1 = k)
def get (k : ByteArray) : KV → Option ByteArray
  | [] => none
  | x :: r => if x.1 = k then some x.2 else get k r

theorem ins_mid (k v : ByteArray) (A B C : KV) (hA : ∀ x ∈ A, lt x.1 k = true) (hC : ∀ x ∈ C, lt k x.1 = true) : ins k v (A ++ (B ++ C)) = A ++ (ins k v B ++ C) := by
  induction A with
  | nil =>
    induction B with
    | nil =>
      cases C with
      | nil => rfl
      | cons c C => simp [ins, hC c (by simp)]
    | cons b B ih =>
      simp only [List.nil_append] at ih
      simp only [List.nil_append, List.cons_append, ins]
      split
      · rfl
      · split
        · rfl
        · rw [ih]; rfl
  | cons a A ih =>
    have h := hA a (by simp)
    simp only [List.cons_append, ins, lt_asymm h, Bool.false_eq_true, if_false]
    rw [if_neg (lt_ne h), ih (fun x hx => hA x (by simp [hx]))]

theorem get_mid (k : ByteArray) (A B C : KV) (hA : ∀ x ∈ A, lt x.1 k = true) (hC : ∀ x ∈ C, lt k x.1 = true) : get k (A ++ (B ++ C)) = get k B := by
  induction A with
  | nil =>
    induction B with
    | nil =>
      simp only [List.nil_append, get]
      induction C with
      | nil => rfl
      | cons c C ih => simp only [get]; rw [if_neg (fun e => lt_ne (hC c (by simp)) e.symm)]; exact ih (fun x hx => hC x (by simp [hx]))
    | cons b B ih =>
      simp only [List.nil_append] at ih
      simp only [List.nil_append, List.cons_append, get, ih]
  | cons a A ih =>
    simp only [List.cons_append, get]
    rw [if_neg (lt_ne (hA a (by simp))), ih (fun x hx => hA x (by simp [hx]))]

theorem del_mid (k : ByteArray) (A B C : KV) (hA : ∀ x ∈ A, lt x.1 k = true) (hC : ∀ x ∈ C, lt k x.1 = true) : del k (A ++ (B ++ C)) = A ++ (del k B ++ C) := by
  unfold del
  rw [List.filter_append, List.filter_append]
  congr 1
  · rw [List.filter_eq_self]; intro x hx; simp [lt_ne (hA x hx)]
  · congr 1
    rw [List.filter_eq_self]; intro x hx; have := (lt_ne (hC x hx)).symm; simp [this]

/-- The place of a key. -/
def Pos (l : KV) (k : ByteArray) (i : Nat) : Prop := i ≤ l.length ∧ (∀ x ∈ l.take i, lt x.1 k = true) ∧ (∀ x ∈ l.drop i, lt x.1 k = false)

theorem Srt.drop_gt {l : KV} (h : Srt l) {i : Nat} (hi : i < l.length) : ∀ x ∈ l.drop (i + 1), lt l[i].1 x.1 = true := by
  intro x hx
  have h2 : (l.drop i).Pairwise (fun x y => lt x.1 y.1 = true) := h.sublist (List.drop_sublist _ _)
  rw [List.drop_eq_getElem_cons hi, List.pairwise_cons] at h2
  exact h2.1 x hx
theorem Srt.take_lt {l : KV} (h : Srt l) {i : Nat} (hi : i < l.length) : ∀ x ∈ l.take i, lt x.1 l[i].1 = true := by
  intro x hx
  have h2 := h
  unfold Srt at h2
  rw [← List.take_append_drop i l, List.pairwise_append, List.drop_eq_getElem_cons hi] at h2
  exact h2.2.2 x hx _ List.mem_cons_self

theorem pos_of_search {l : KV} (hs : Srt l) (k : ByteArray) (i : Nat) (hi : i ≤ l.length) (h0 : ∀ h : i - 1 < l.length, 0 < i → lt l[i - 1].1 k = true) (h1 : ∀ h : i < l.length, lt l[i].1 k = false) : Pos l k i := by
  refine ⟨hi, ?_, ?_⟩
  · intro x hx
    by_cases h : 0 < i
    · have hi1 : i - 1 < l.length := by omega
      have e : l.take i = l.take (i - 1) ++ [l[i - 1]] := by
        have := List.take_succ_eq_append_getElem hi1
        rwa [show i - 1 + 1 = i by omega] at this
      rw [e, List.mem_append, List.mem_singleton] at hx
      rcases hx with hx | rfl
      · exact lt_trans (hs.take_lt hi1 x hx) (h0 hi1 h)
      · exact h0 hi1 h
    · have : i = 0 := by omega
      subst this; simp at hx
  · intro x hx
    by_cases h : i < l.length
    · rw [List.drop_eq_getElem_cons h, List.mem_cons] at hx
      rcases hx with rfl | hx
      · exact h1 h
      · cases hlt : lt x.1 k
        · rfl
        · have := lt_trans (hs.drop_gt h x hx) hlt; rw [h1 h] at this; cases this
    · rw [List.drop_eq_nil_of_le (by omega)] at hx; cases hx

theorem split_at {l : KV} {i : Nat} (hi : i < l.length) : l = l.take i ++ ([l[i]] ++ l.drop (i + 1)) := by
  rw [List.singleton_append, ← List.drop_eq_getElem_cons hi, List.take_append_drop]

section
variable {l : KV} {k : ByteArray} {i : Nat}
theorem Pos.found_split (hp : Pos l k i) (hs : Srt l) (hi : i < l.length) (he : l[i].1 = k) : (∀ x ∈ l.take i, lt x.1 k = true) ∧ ∀ x ∈ l.drop (i + 1), lt k x.1 = true :=
  ⟨hp.2.1, fun x hx => he ▸ hs.drop_gt hi x hx⟩
theorem Pos.get_found (hp : Pos l k i) (hs : Srt l) (hi : i < l.length) (he : l[i].1 = k) : get k l = some l[i].2 := by
  have h := hp.found_split hs hi he
  have e : get k l = get k [l[i]] := by
    conv => lhs; rw [split_at hi, get_mid k _ _ _ h.1 h.2]
  rw [e]; simp [get, he]
theorem Pos.ins_found (v : ByteArray) (hp : Pos l k i) (hs : Srt l) (hi : i < l.length) (he : l[i].1 = k) : ins k v l = l.take i ++ (k, v) :: l.drop (i + 1) := by
  have h := hp.found_split hs hi he
  conv => lhs; rw [split_at hi, ins_mid k v _ _ _ h.1 h.2]
  simp [ins, he, lt_irrefl]
theorem Pos.del_found (hp : Pos l k i) (hs : Srt l) (hi : i < l.length) (he : l[i].1 = k) : del k l = l.take i ++ l.drop (i + 1) := by
  have h := hp.found_split hs hi he
  conv => lhs; rw [split_at hi, del_mid k _ _ _ h.1 h.2]
  simp [del, he]
theorem Pos.gt (hp : Pos l k i) (hn : ∀ h : i < l.length, l[i].1 ≠ k) (hs : Srt l) : ∀ x ∈ l.drop i, lt k x.1 = true := by
  intro x hx
  cases hlt : lt k x.1
  · have e := lt_total (hp.2.2 x hx) hlt
    by_cases h : i < l.length
    · rw [List.drop_eq_getElem_cons h, List.mem_cons] at hx
      rcases hx with rfl | hx
      · exact absurd e (hn h)
      · have h3 := hs.drop_gt h x hx
        have h4 := hp.2.2 l[i] (by rw [List.drop_eq_getElem_cons h]; exact List.mem_cons_self)
        rw [e, h4] at h3; cases h3
    · rw [List.drop_eq_nil_of_le (by omega)] at hx; cases hx
  · rfl
theorem Pos.get_not (hp : Pos l k i) (hs : Srt l) (hn : ∀ h : i < l.length, l[i].1 ≠ k) : get k l = none := by
  have h := get_mid k (l.take i) [] (l.drop i) hp.2.1 (hp.gt hn hs)
  rw [List.nil_append, List.take_append_drop] at h
  exact h
theorem Pos.ins_not (v : ByteArray) (hp : Pos l k i) (hs : Srt l) (hn : ∀ h : i < l.length, l[i].1 ≠ k) : ins k v l = l.take i ++ (k, v) :: l.drop i := by
  have h := ins_mid k v (l.take i) [] (l.drop i) hp.2.1 (hp.gt hn hs)
  rw [List.nil_append, List.take_append_drop] at h
  exact h
theorem Pos.del_not (hp : Pos l k i) (hs : Srt l) (hn : ∀ h : i < l.length, l[i].1 ≠ k) : del k l = l := by
  have h := del_mid k (l.take i) [] (l.drop i) hp.2.1 (hp.gt hn hs)
  rw [List.nil_append, List.take_append_drop] at h
  simpa [del] using h
end

theorem ins_keys (k v : ByteArray) : ∀ (l : KV) (x), x ∈ ins k v l → x.1 = k ∨ x ∈ l
  | [], x, h => by simp [ins] at h; exact .inl (by rw [h])
  | y :: r, x, h => by
    simp only [ins] at h
    split at h
    · rcases List.mem_cons.1 h with rfl | h
      · exact .inl rfl
      · exact .inr h
    · split at h
      · rcases List.mem_cons.1 h with rfl | h
        · exact .inl rfl
        · exact .inr (by simp [h])
      · rcases List.mem_cons.1 h with rfl | h
        · exact .inr (by simp)
        · exact (ins_keys k v r x h).imp id (fun h => by simp [h])
theorem srt_ins (k v : ByteArray) : ∀ l : KV, Srt l → Srt (ins k v l)
  | [], _ => by simp [ins, Srt]
  | y :: r, h => by
    have hh := h
    unfold Srt at hh
    rw [List.pairwise_cons] at hh
    simp only [ins]
    split
    · rename_i hk
      unfold Srt
      rw [List.pairwise_cons]
      refine ⟨?_, h⟩
      intro x hx
      rcases List.mem_cons.1 hx with rfl | hx
      · exact hk
      · exact lt_trans hk (hh.1 x hx)
    · rename_i hk
      split
      · rename_i he
        unfold Srt
        rw [List.pairwise_cons]
        exact ⟨fun x hx => he ▸ hh.1 x hx, hh.2⟩
      · rename_i he
        unfold Srt
        rw [List.pairwise_cons]
        refine ⟨?_, srt_ins k v r hh.2⟩
        intro x hx
        rcases ins_keys k v r x hx with e | hx
        · rw [e]
          cases hlt : lt y.1 k
          · exact absurd (lt_total hlt (by simpa using hk)) he
          · rfl
        · exact hh.1 x hx
theorem srt_del (k : ByteArray) (l : KV) (h : Srt l) : Srt (del k l) := h.sublist List.filter_sublist

theorem length_ins (k v : ByteArray) : ∀ l : KV, Srt l → (get k l = none → (ins k v l).length = l.length + 1) ∧ (get k l ≠ none → (ins k v l).length = l.length)
  | [], _ => ⟨fun _ => rfl, fun h => absurd rfl h⟩
  | y :: r, h => by
    have hh := h
    unfold Srt at hh
    rw [List.pairwise_cons] at hh
    by_cases hk : lt k y.1 = true
    · have hn : get k (y :: r) = none := by
        have := get_mid k [] [] (y :: r) (by simp) (by
          intro x hx
          rcases List.mem_cons.1 hx with rfl | hx
          · exact hk
          · exact lt_trans hk (hh.1 x hx))
        exact this
      refine ⟨fun _ => by simp [ins, hk], fun h => absurd hn h⟩
    · by_cases he : y.1 = k
      · refine ⟨fun h => by simp [get, he] at h, fun _ => by simp [ins, he, lt_irrefl]⟩
      · have e1 : get k (y :: r) = get k r := by simp [get, he]
        have e2 : ins k v (y :: r) = y :: ins k v r := by simp [ins, hk, he]
        have ih := length_ins k v r hh.2
        rw [e1, e2, List.length_cons, List.length_cons]
        exact ⟨fun h => by rw [ih.1 h], fun h => by rw [ih.2 h]⟩
theorem length_del (k : ByteArray) : ∀ l : KV, Srt l → (get k l = none → del k l = l) ∧ (get k l ≠ none → (del k l).length + 1 = l.length)
  | [], _ => ⟨fun _ => rfl, fun h => absurd rfl h⟩
  | y :: r, h => by
    have hh := h
    unfold Srt at hh
    rw [List.pairwise_cons] at hh
    by_cases he : y.1 = k
    · refine ⟨fun h => by simp [get, he] at h, fun _ => ?_⟩
      have e : del k r = r := by
        unfold del; rw [List.filter_eq_self]; intro x hx
        have := (lt_ne (hh.1 x hx)).symm
        rw [he] at this
        simp [this]
      have e2 : del k (y :: r) = del k r := by simp [del, he]
      rw [e2, e, List.length_cons]
    · have e1 : get k (y :: r) = get k r := by simp [get, he]
      have e2 : del k (y :: r) = y :: del k r := by simp [del, he]
      have ih := length_del k r hh.2
      rw [e1, e2]
      exact ⟨fun h => by rw [ih.1 h], fun h => by rw [List.length_cons, List.length_cons, ih.2 h]⟩

/-- Segments, each with its first key. -/
def segs (L : List (ByteArray × KV)) : KV := L.flatMap (·.2)
def Keyed (L : List (ByteArray × KV)) : Prop := ∀ x ∈ L, ∃ v r, x.2 = (x.1, v) :: r
def keysOf (L : List (ByteArray × KV)) : KV := L.map fun x => (x.1, ByteArray.empty)

theorem segs_append (A B : List (ByteArray × KV)) : segs (A ++ B) = segs A ++ segs B := by simp [segs]
theorem segs_cons (x : ByteArray × KV) (B : List (ByteArray × KV)) : segs (x :: B) = x.2 ++ segs B := by simp [segs]
theorem segs_nil : segs [] = [] := rfl
theorem key_mem_segs {L : List (ByteArray × KV)} (hk : Keyed L) {x : ByteArray × KV} (hx : x ∈ L) : ∃ v, (x.1, v) ∈ x.2 ∧ (x.1, v) ∈ segs L := by
  obtain ⟨v, r, h⟩ := hk x hx
  exact ⟨v, by rw [h]; simp, by unfold segs; rw [List.mem_flatMap]; exact ⟨x, hx, by rw [h]; simp⟩⟩
theorem srt_keysOf : ∀ L : List (ByteArray × KV), Keyed L → Srt (segs L) → Srt (keysOf L)
  | [], _, _ => by simp [keysOf, Srt]
  | x :: L, hk, hs => by
    rw [segs_cons] at hs
    unfold Srt at hs
    rw [List.pairwise_append] at hs
    have ih := srt_keysOf L (fun y hy => hk y (by simp [hy])) hs.2.1
    unfold Srt keysOf at ih ⊢
    rw [List.map_cons, List.pairwise_cons]
    refine ⟨?_, ih⟩
    intro y hy
    rw [List.mem_map] at hy
    obtain ⟨z, hz, rfl⟩ := hy
    obtain ⟨v, hv, -⟩ := key_mem_segs hk (x := x) (by simp)
    obtain ⟨v2, -, hv2⟩ := key_mem_segs (L := L) (fun y hy => hk y (by simp [hy])) hz
    have h3 := hs.2.2 _ hv _ hv2
    exact h3
theorem seg_le {L : List (ByteArray × KV)} (hk : Keyed L) (hs : Srt (segs L)) {x : ByteArray × KV} (hx : x ∈ L) : ∀ y ∈ x.2, lt y.1 x.1 = false := by
  intro y hy
  obtain ⟨v, r, h⟩ := hk x hx
  obtain ⟨A, B, rfl⟩ := List.append_of_mem hx
  rw [segs_append, segs_cons] at hs
  unfold Srt at hs
  rw [List.pairwise_append, List.pairwise_append] at hs
  have h2 := hs.2.1.1
  rw [h] at hy h2
  rw [List.pairwise_cons] at h2
  rcases List.mem_cons.1 hy with rfl | hy
  · exact lt_irrefl _
  · exact lt_asymm (h2.1 y hy)

theorem under_ok {L : List (ByteArray × KV)} (hk : Keyed L) (hs : Srt (segs L)) (hne : L ≠ []) (key : ByteArray) (k u : Nat) (hp : Pos (keysOf L) key k)
    (hu : (∃ h : k < L.length, L[k].1 = key) ∧ u = k ∨ (¬ ∃ h : k < L.length, L[k].1 = key) ∧ u = k - 1) :
    ∃ h : u < L.length, L = L.take u ++ L[u] :: L.drop (u + 1) ∧ (∀ x ∈ segs (L.take u), lt x.1 key = true) ∧ ∀ x ∈ segs (L.drop (u + 1)), lt key x.1 = true := by
  have hlen : (keysOf L).length = L.length := by simp [keysOf]
  have hlp : 0 < L.length := List.length_pos_iff.2 hne
  have hkl : k ≤ L.length := hlen ▸ hp.1
  have hul : u < L.length := by
    rcases hu with ⟨⟨h, _⟩, rfl⟩ | ⟨_, rfl⟩
    · exact h
    · omega
  have hsplit : L = L.take u ++ L[u] :: L.drop (u + 1) := by
    rw [← List.drop_eq_getElem_cons hul, List.take_append_drop]
  have hsk := srt_keysOf L hk hs
  have hge : ∀ (j : Nat) (h : j < (keysOf L).length), (keysOf L)[j].1 = L[j].1 := by intro j h; simp [keysOf]
  refine ⟨hul, hsplit, ?_, ?_⟩
  · intro x hx
    obtain ⟨v, r, hv⟩ := hk L[u] (List.getElem_mem hul)
    have hlt : lt x.1 L[u].1 = true := by
      have h2 := hs
      rw [hsplit, segs_append, segs_cons] at h2
      unfold Srt at h2
      rw [List.pairwise_append] at h2
      exact h2.2.2 x hx (L[u].1, v) (by rw [hv]; simp)
    rcases hu with ⟨⟨h, he⟩, rfl⟩ | ⟨hn, rfl⟩
    · rw [he] at hlt; exact hlt
    · by_cases h0 : k = 0
      · subst h0; simp [segs] at hx
      · refine lt_trans hlt ?_
        have := hp.2.1 (keysOf L)[k - 1] (by
          rw [List.mem_iff_getElem]
          exact ⟨k - 1, by simp [keysOf]; omega, by simp⟩)
        rwa [hge] at this
  · intro x hx
    unfold segs at hx
    rw [List.mem_flatMap] at hx
    obtain ⟨y, hy, hxy⟩ := hx
    have hyl : y ∈ L := List.mem_of_mem_drop hy
    have hle := seg_le hk hs hyl x hxy
    refine lt_le ?_ hle
    rw [List.mem_iff_getElem] at hy
    obtain ⟨j, hj, hjy⟩ := hy
    rw [List.getElem_drop] at hjy
    have hjl : u + 1 + j < L.length := by rw [List.length_drop] at hj; omega
    have hmem : (keysOf L)[u + 1 + j]'(by omega) ∈ (keysOf L).drop k := by
      rw [List.mem_iff_getElem]
      refine ⟨u + 1 + j - k, by rw [List.length_drop]; rcases hu with ⟨_, rfl⟩ | ⟨_, rfl⟩ <;> omega, ?_⟩
      rw [List.getElem_drop]
      congr 1
      rcases hu with ⟨_, rfl⟩ | ⟨_, rfl⟩ <;> omega
    rw [← hjy, ← hge _ (by omega)]
    rcases hu with ⟨⟨h, he⟩, rfl⟩ | ⟨hn, rfl⟩
    · have h3 := hsk.drop_gt (i := u) (by omega) ((keysOf L)[u + 1 + j]'(by omega)) (by
        rw [List.mem_iff_getElem]
        exact ⟨j, by rw [List.length_drop]; omega, by rw [List.getElem_drop]⟩)
      rw [hge u (by omega), he] at h3
      exact h3
    · exact hp.gt (fun h e => hn ⟨by omega, by rw [← hge k h]; exact e⟩) hsk _ hmem

end Go.Proofs.Ytempbaflcbmcpaa
