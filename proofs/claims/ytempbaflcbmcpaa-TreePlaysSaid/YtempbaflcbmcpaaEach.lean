/- (*node).each at a leaf. -/
import Derived.Test.YtempbaflcbmcpaaYield
namespace Go.Proofs.Ytempbaflcbmcpaa
open Go.RowKit

/-- What a scan gathers of a list, and whether it went through. -/
def scan (most : Int) (to : ByteArray) : KV → KV → KV × Bool
  | acc, [] => (acc, true)
  | acc, x :: l => if stop most to acc.length x.1 then (acc, false) else scan most to (acc ++ [x]) l

theorem scan_append (most : Int) (to : ByteArray) : ∀ (l1 acc l2 : KV), scan most to acc (l1 ++ l2) = if (scan most to acc l1).2 then scan most to (scan most to acc l1).1 l2 else ((scan most to acc l1).1, false)
  | [], acc, l2 => by simp [scan]
  | x :: l1, acc, l2 => by
    have e := scan_append most to l1 (acc ++ [x]) l2
    simp only [List.cons_append, scan]
    by_cases h : stop most to acc.length x.1 = true
    · simp [h]
    · simp only [if_neg h]; exact e
theorem scan_len (most : Int) (to : ByteArray) : ∀ (l acc : KV), (scan most to acc l).1.length ≤ acc.length + l.length
  | [], acc => by simp [scan]
  | x :: l, acc => by
    simp only [scan]
    cases stop most to acc.length x.1
    · simp only [Bool.false_eq_true, if_false]
      have := scan_len most to l (acc ++ [x])
      simp at this ⊢; omega
    · simp
theorem scan_one (most : Int) (to : ByteArray) (acc : KV) (x : ByteArray × ByteArray) : scan most to acc [x] = (if stop most to acc.length x.1 then acc else acc ++ [x], ! stop most to acc.length x.1) := by
  simp only [scan]; cases stop most to acc.length x.1 <;> simp

def fromOf (key : ByteArray) (l : KV) : KV := l.dropWhile fun x => lt x.1 key

theorem dropWhile_all {α : Type} (p : α → Bool) : ∀ (A R : List α), (∀ x ∈ A, p x = true) → (A ++ R).dropWhile p = R.dropWhile p
  | [], R, _ => rfl
  | x :: A, R, h => by rw [List.cons_append, List.dropWhile_cons, if_pos (h x (by simp))]; exact dropWhile_all p A R (fun y hy => h y (by simp [hy]))
theorem dropWhile_none {α : Type} (p : α → Bool) : ∀ (R : List α), (∀ x ∈ R, p x = false) → R.dropWhile p = R
  | [], _ => rfl
  | x :: R, h => by rw [List.dropWhile_cons, if_neg (by rw [h x (by simp)]; simp)]
theorem dropWhile_mid {α : Type} (p : α → Bool) : ∀ (B C : List α), (∀ x ∈ C, p x = false) → (B ++ C).dropWhile p = B.dropWhile p ++ C
  | [], C, h => dropWhile_none p C h
  | x :: B, C, h => by
    rw [List.cons_append, List.dropWhile_cons, List.dropWhile_cons]
    split
    · exact dropWhile_mid p B C h
    · rfl
theorem fromOf_pos {kv : KV} {key : ByteArray} {i : Nat} (h : Pos kv key i) : fromOf key kv = kv.drop i := by
  unfold fromOf
  conv => lhs; rw [← List.take_append_drop i kv]
  rw [dropWhile_all _ _ _ h.2.1, dropWhile_none _ _ h.2.2]

def EachEnd (C ob mb pb : Nat) (most : Int) (to : ByteArray) (acc l : KV) (w : World) (e : Ending) (w' : World) : Prop :=
  e = .returned (.bool (scan most to acc l).2) ∧ Out C ob mb pb most to (scan most to acc l).1 w' ∧ Chg (fun x => x = ob ∨ C ≤ x) w w'

theorem scan_next {most : Int} {to : ByteArray} {acc kv : KV} {p m : Nat} (hm : p + m < kv.length) (h2 : (scan most to acc ((kv.drop p).take m)).2 = true) :
    scan most to acc ((kv.drop p).take (m + 1)) = (if stop most to (scan most to acc ((kv.drop p).take m)).1.length kv[p + m].1 then (scan most to acc ((kv.drop p).take m)).1 else (scan most to acc ((kv.drop p).take m)).1 ++ [kv[p + m]], ! stop most to (scan most to acc ((kv.drop p).take m)).1.length kv[p + m].1) := by
  have e : (kv.drop p).take (m + 1) = (kv.drop p).take m ++ [kv[p + m]] := by
    rw [List.take_succ_eq_append_getElem (by simp; omega)]
    simp
  rw [e, scan_append, h2, if_pos rfl, scan_one]
theorem scan_stopped {most : Int} {to : ByteArray} {acc kv : KV} {p m : Nat} (h : (scan most to acc ((kv.drop p).take m)).2 = false) :
    scan most to acc (kv.drop p) = ((scan most to acc ((kv.drop p).take m)).1, false) := by
  conv => lhs; rw [← List.take_append_drop m (kv.drop p)]
  rw [scan_append, h]; simp

set_option maxRecDepth 100000 in
set_option maxHeartbeats 2000000 in
theorem each_leafN (C ob mb pb b n g c : Nat) (most : Int) (to key : ByteArray) (acc kv : KV) (w : World) (hkn : kv.length = n)
    (hb : w.heap[b]? = some (.cells #[.slice (some ⟨g, 0, none⟩) n c, .slice none 0 0] 62 (0, 0))) (ho : w.ownsRow 0 65 2 (.slice (some ⟨g, 0, none⟩) n c) n (leafCells kv)) (hn4 : n ≤ 4) (hs : Srt kv)
    (hbC : b < C ∧ g < C) (hbo : b ≠ ob ∧ g ≠ ob) (hO : Out C ob mb pb most to acc w) (hlen : acc.length + kv.length ≤ 5000000000000) :
    Calls Try.prog 32 #[ptr b, .string key, .func (.func 33) #[] #[ptr ob, ptr mb, ptr pb]] w (EachEnd C ob mb pb most to acc (fromOf key kv) w) := by
  have h1c : w.cell? ⟨b, 1, none⟩ = some (.slice none 0 0) := cell_at hb 1
  have h0c : w.cell? ⟨b, 0, none⟩ = some (.slice (some ⟨g, 0, none⟩) n c) := cell_at hb 0
  have hd := Chg.drew (fun _ => False) w
  have Hp := Lib.hid (place23 w.drew b 0 n _ (leafCells kv) key h0c (ownsRow_chg hd ho (fun _ _ h => h)) (fun i h => ⟨_, leafCells_key kv i (by omega)⟩) (by omega))
  have Hb := Lib.hid hb
  have Ho := Lib.hid ho
  have Hs := Lib.hid hs
  have Hkn := Lib.hid hkn
  have HO := Lib.hid hO
  have Hlen := Lib.hid hlen
  have hbl := lt_of_heap hb
  clear hb ho hs hkn hO hlen hd
  unfold ptr
  go_enter Try.func32, Try.ntmps32
  go_wp2_with (go_at_call 21; refine (leaf_yes _ _ _ _ h1c).mono ?_; rintro e w' ⟨rfl, rfl⟩)
  go_region_law (go_simp; go_at_call 23; refine Hp.out.mono ?_; rintro e w1 ⟨i, hse, rfl, hb1⟩; have h0c1 : w1.cell? ⟨b, 0, none⟩ = some (.slice (some ⟨g, 0, none⟩) n c) := (hb1.cell hbl).trans h0c; have hil : i ≤ n := hse.2.1)
  all_goals
    have hpos := leaf_pos Hs.out (i := i) (k := key) (by rw [Hkn.out]; exact hse)
    have hb1' : Chg (fun _ => False) w w1 := (Chg.drew (fun _ => False) w).trans (below_chg hb1) (fun _ _ h => h)
    have HO1 := Lib.hid (HO.out.chg hb1' (fun _ _ h => h))
    have Hc1 := Lib.hid (hb1'.mono (T := fun x => x = ob ∨ C ≤ x) (fun _ _ h => h.elim))
    have Ho1 := Lib.hid (ownsRow_chg hb1' Ho.out (fun _ _ h => h))
    have Ho0 := Lib.hid Ho.out
    have Hf := Lib.hid (fromOf_pos hpos)
    obtain ⟨pp, hpp⟩ : ∃ pp : Option Addr, pp = (if c = i then some ⟨g, 0, none⟩ else some ⟨g, i * 2, none⟩) := ⟨_, rfl⟩
    rw [← hpp]
    have Hpp := Lib.hid hpp
    obtain ⟨q, hq⟩ : ∃ q, n - i = q := ⟨_, rfl⟩
    rw [hq]
    clear hpos hse hb1 hb1' hpp h0c h1c h0c1 Hp Hb Ho HO Hs hbl
    go_wp2
    simp only [Act.put, List.getElem_toArray, List.getElem_cons_succ, List.getElem_cons_zero, List.setIfInBounds_toArray, List.set_cons_succ, List.set_cons_zero]

    go_loopg [25] q (fun j z wr => ∃ m : Nat, m + j = q ∧ z = .int .i64 m ∧ (scan most to acc ((kv.drop i).take m)).2 = true ∧ Out C ob mb pb most to (scan most to acc ((kv.drop i).take m)).1 wr ∧ Chg (fun x => x = ob ∨ C ≤ x) w wr)
    case atStart => exact ⟨0, by omega, rfl, by simp [scan], by simpa [scan] using HO1.out, Hc1.out⟩
    case round =>
      obtain ⟨m, hmj, rfl, h2, hO, hc⟩ := hrel
      have H2 := Lib.hid h2
      have HOr := Lib.hid hO
      have Hcr := Lib.hid hc
      clear h2 hO hc HO1 Hc1 Ho1
      by_cases hlt : m < q
      · have him : i + m < kv.length := by rw [Hkn.out]; omega
        have hor : wr.ownsRow 0 65 2 (.slice (some ⟨g, 0, none⟩) n c) n (leafCells kv) := ownsRow_chg Hcr.out Ho0.out (fun k hk => by cases hk; show ¬ (g = ob ∨ C ≤ g); omega)
        obtain ⟨g0, cap0, hf0, hnc, -, hcell⟩ := row_form hor (by omega)
        cases hf0
        have hk1 : wr.cell? ⟨g, i * 2 + m * 2, none⟩ = some (.string kv[i + m].1) := by
          rw [show i * 2 + m * 2 = (i + m) * 2 by omega]; exact hcell _ _ (leafCells_key kv (i + m) him)
        have hk2 : wr.cell? ⟨g, i * 2 + m * 2 + 1, none⟩ = some (.string kv[i + m].2) := by
          rw [show i * 2 + m * 2 + 1 = (i + m) * 2 + 1 by omega]; exact hcell _ _ (leafCells_val kv (i + m) him)
        have hne : ¬ c = i := by omega
        have hpp : pp = some ⟨g, i * 2, none⟩ := by rw [Hpp.out, if_neg hne]
        subst hpp
        have Hx := Lib.hid (scan_next him H2.out)
        obtain ⟨a1, ha1⟩ : ∃ a1, a1 = (scan most to acc ((kv.drop i).take m)).1 := ⟨_, rfl⟩
        rw [← ha1] at Hx HOr
        obtain ⟨kk, hkk⟩ : ∃ kk, kk = kv[i + m].1 := ⟨_, rfl⟩
        obtain ⟨vv, hvv⟩ : ∃ vv, vv = kv[i + m].2 := ⟨_, rfl⟩
        have Hxx : Hid (kv[i + m] = (kk, vv)) := by show kv[i + m] = (kk, vv); rw [hkk, hvv]
        rw [← hkk] at hk1 Hx
        rw [← hvv] at hk2
        rw [Hxx.out] at Hx
        have hla : a1.length ≤ 5000000000000 := by
          have := scan_len most to ((kv.drop i).take m) acc
          rw [← ha1] at this
          have h3 := Hlen.out
          simp only [List.length_take, List.length_drop] at this
          omega
        have hwb : IntKind.i64.wrap ((m : Int) + 1) = (m : Int) + 1 := IntWalk.i64_in _ (by omega)
        have hca := Chg.alloc (fun _ => False) wr (.cells #[.string kk, .string vv] 65 (0, 0))
        have Hy := Lib.hid (yield_calls C ob mb pb most to a1 kk vv (wr.alloc (.cells #[.string kk, .string vv] 65 (0, 0))) (HOr.out.chg hca (fun _ _ h => h)) hla)
        have Hcc := Lib.hid (Hcr.out.trans hca (fun _ _ h => h.elim))
        clear hor hcell hkk hvv ha1 hca hla
        unfold ptr at Hy
        go_wp2_with fail
        refine Hy.out.mono ?_
        rintro e w' ⟨rfl, hO', hc'⟩
        have Hc' := Lib.hid (Hcc.out.trans hc' (fun _ _ h => h))
        cases hst : stop most to a1.length kk
        · rw [hst] at Hx hO'
          have HO' : Hid (Out C ob mb pb most to (a1 ++ [(kk, vv)]) w') := hO'
          have Hx' : Hid (scan most to acc ((kv.drop i).take (m + 1)) = (a1 ++ [(kk, vv)], true)) := Hx.out
          clear hO' hc' hst Hx hk1 hk2 Hy Hcc
          go_wp2
          go_roundg (gk - 1)
          case measure => omega
          case rel => exact ⟨m + 1, by omega, by go_num, by rw [Hx'.out], by rw [Hx'.out]; exact HO'.out, Hc'.out⟩
        · rw [hst] at Hx hO'
          have HO' : Hid (Out C ob mb pb most to a1 w') := hO'
          have Hx' : Hid (scan most to acc ((kv.drop i).take (m + 1)) = (a1, false)) := Hx.out
          clear hO' hc' hst Hx hk1 hk2 Hy Hcc
          have Hz : Hid (scan most to acc (fromOf key kv) = (a1, false)) := by show scan most to acc (fromOf key kv) = _; rw [Hf.out, scan_stopped (m := m + 1) (by rw [Hx'.out]), Hx'.out]
          go_wp2
          go_ret
          exact ⟨by rw [Hz.out]; rfl, by rw [Hz.out]; exact HO'.out, Hc'.out⟩
      · have Hz : Hid ((kv.drop i).take m = fromOf key kv) := by show List.take m (List.drop i kv) = _; rw [Hf.out, List.take_of_length_le (by rw [List.length_drop, Hkn.out]; omega)]
        go_wp2
        go_ret
        rw [Hz.out] at H2 HOr
        exact ⟨by rw [H2.out]; rfl, HOr.out, Hcr.out⟩

set_option maxRecDepth 100000 in
set_option maxHeartbeats 2000000 in
theorem each_leaf0 (C ob mb pb b : Nat) (most : Int) (to key : ByteArray) (acc : KV) (w : World)
    (hb : w.heap[b]? = some (.cells #[.slice none 0 0, .slice none 0 0] 62 (0, 0))) (hO : Out C ob mb pb most to acc w) :
    Calls Try.prog 32 #[ptr b, .string key, .func (.func 33) #[] #[ptr ob, ptr mb, ptr pb]] w (EachEnd C ob mb pb most to acc [] w) := by
  have h1c : w.cell? ⟨b, 1, none⟩ = some (.slice none 0 0) := cell_at hb 1
  have h0c : w.cell? ⟨b, 0, none⟩ = some (.slice none 0 0) := cell_at hb 0
  have Hp := Lib.hid (place23 w.drew b 0 0 _ [] key h0c (World.ownsRow_nil _ _ _ _) (fun i h => absurd h (by omega)) (by omega))
  have HO := Lib.hid hO
  have hbl := lt_of_heap hb
  clear hb hO
  unfold ptr
  go_enter Try.func32, Try.ntmps32
  go_wp2_with (go_at_call 21; refine (leaf_yes _ _ _ _ h1c).mono ?_; rintro e w' ⟨rfl, rfl⟩)
  go_region_law (go_simp; go_at_call 23; refine Hp.out.mono ?_; rintro e w1 ⟨i, hse, rfl, hb1⟩; have h0c1 : w1.cell? ⟨b, 0, none⟩ = some (.slice none 0 0) := (hb1.cell hbl).trans h0c; obtain rfl : i = 0 := by have := hse.2.1; omega)
  all_goals
    have hb1' : Chg (fun _ => False) w w1 := (Chg.drew (fun _ => False) w).trans (below_chg hb1) (fun _ _ h => h)
    have HO1 := Lib.hid (HO.out.chg hb1' (fun _ _ h => h))
    have Hc1 := Lib.hid (hb1'.mono (T := fun x => x = ob ∨ C ≤ x) (fun _ _ h => h.elim))
    clear hse hb1 hb1' h0c h1c h0c1 Hp HO hbl
    go_wp2
    simp only [Act.put, List.getElem_toArray, List.getElem_cons_succ, List.getElem_cons_zero, List.setIfInBounds_toArray, List.set_cons_succ, List.set_cons_zero]
    go_loopg [25] 0 (fun j z wr => z = .int .i64 0 ∧ wr = w1)
    case atStart => exact ⟨rfl, rfl⟩
    case round =>
      obtain ⟨rfl, rfl⟩ := hrel
      go_wp2
      go_ret
      exact ⟨rfl, HO1.out, Hc1.out⟩

theorem each_leaf (C ob mb pb : Nat) (most : Int) (to key : ByteArray) (acc : KV) (w : World) (t : Leaf) (hl : Lies w 0 t) (hw : WF 0 0 t) (hs : Srt t.kv) (hbl : ∀ x ∈ AT.blocks 0 t, x < C ∧ x ≠ ob)
    (hO : Out C ob mb pb most to acc w) (hlen : acc.length + t.kv.length ≤ 5000000000000) :
    Calls Try.prog 32 #[ptr t.b, .string key, .func (.func 33) #[] #[ptr ob, ptr mb, ptr pb]] w (EachEnd C ob mb pb most to acc (fromOf key t.kv) w) := by
  obtain ⟨b, v, kv⟩ := t
  obtain ⟨hb, ho⟩ := hl
  replace ho : w.ownsRow 0 65 2 v kv.length (leafCells kv) := ho
  rcases ho.2 with ⟨rfl, h0⟩ | ⟨g, cap, cur, rfl, h2⟩
  · have : kv = [] := List.eq_nil_of_length_eq_zero h0
    subst this
    exact each_leaf0 C ob mb pb b most to key acc w hb hO
  · have h1 := hbl b (by simp [AT.blocks])
    have h3 := hbl g (by simp [AT.blocks, Value.ownBlock])
    exact each_leafN C ob mb pb b kv.length g cap most to key acc kv w rfl hb ho hw.2 hs ⟨h1.1, h3.1⟩ ⟨h1.2, h3.2⟩ hO hlen

end Go.Proofs.Ytempbaflcbmcpaa
