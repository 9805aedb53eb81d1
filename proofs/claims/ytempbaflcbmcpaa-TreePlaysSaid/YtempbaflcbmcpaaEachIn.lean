/- (*node).each at any tree. -/
import Derived.Test.YtempbaflcbmcpaaEach
namespace Go.Proofs.Ytempbaflcbmcpaa
open Go.RowKit

def EachCalls (d : Nat) : Prop := ∀ (C ob mb pb : Nat) (most : Int) (to key : ByteArray) (acc : KV) (w : World) (t : AT d), Lies w d t → WF (min 1 d) d t → Srt (AT.toL d t) → (∀ x ∈ AT.blocks d t, x < C ∧ x ≠ ob) →
  Out C ob mb pb most to acc w → acc.length + (AT.toL d t).length ≤ 5000000000000 →
  Calls Try.prog 32 #[ptr (AT.b d t), .string key, .func (.func 33) #[] #[ptr ob, ptr mb, ptr pb]] w (EachEnd C ob mb pb most to acc (fromOf key (AT.toL d t)) w)

/-- What the kids tell from a key on. -/
def kidsFrom (key : ByteArray) (d : Nat) (K : List (ByteArray × AT d)) : KV := K.flatMap fun x => fromOf key (AT.toL d x.2)

theorem length_fromOf (key : ByteArray) (l : KV) : (fromOf key l).length ≤ l.length := by
  unfold fromOf; exact (List.dropWhile_sublist _).length_le
theorem length_kidsFrom (key : ByteArray) (d : Nat) : ∀ K : List (ByteArray × AT d), (kidsFrom key d K).length ≤ (segs (segsOf d K)).length
  | [] => by simp [kidsFrom, segsOf, segs]
  | x :: K => by
    have h1 := length_kidsFrom key d K
    have h2 := length_fromOf key (AT.toL d x.2)
    rw [segsOf_cons, segs_cons]
    simp only [kidsFrom, List.flatMap_cons, List.length_append] at h1 ⊢
    omega
theorem kidsFrom_append (key : ByteArray) (d : Nat) (A B : List (ByteArray × AT d)) : kidsFrom key d (A ++ B) = kidsFrom key d A ++ kidsFrom key d B := by simp [kidsFrom]
theorem kidsFrom_past (key : ByteArray) (d : Nat) : ∀ K : List (ByteArray × AT d), (∀ x ∈ segs (segsOf d K), lt key x.1 = true) → kidsFrom key d K = segs (segsOf d K)
  | [], _ => rfl
  | x :: K, h => by
    rw [segsOf_cons, segs_cons] at h ⊢
    have h2 := kidsFrom_past key d K (fun y hy => h y (by simp [hy]))
    have h3 : fromOf key (AT.toL d x.2) = AT.toL d x.2 := dropWhile_none _ _ (fun y hy => lt_asymm (h y (by simp [hy])))
    simp only [kidsFrom, List.flatMap_cons] at h2 ⊢
    rw [h3, h2]
theorem fromOf_kids {d u : Nat} {ks : List (ByteArray × AT d)} {key : ByteArray} (h : u < ks.length) (h2 : ks = ks.take u ++ ks[u] :: ks.drop (u + 1)) (h3 : ∀ x ∈ segs (segsOf d (ks.take u)), lt x.1 key = true) (h4 : ∀ x ∈ segs (segsOf d (ks.drop (u + 1))), lt key x.1 = true) :
    fromOf key (segs (segsOf d ks)) = kidsFrom key d (ks.drop u) := by
  have e : fromOf key (segs (segsOf d ks)) = fromOf key (segs (segsOf d (ks.take u ++ ks[u] :: ks.drop (u + 1)))) := congrArg (fun l => fromOf key (segs (segsOf d l))) h2
  rw [e, segsOf_append, segsOf_cons, segs_append, segs_cons]
  show List.dropWhile _ _ = _
  rw [dropWhile_all _ _ _ h3, dropWhile_mid _ _ _ (fun x hx => lt_asymm (h4 x hx)), List.drop_eq_getElem_cons h]
  show _ = fromOf key (AT.toL d ks[u].2) ++ kidsFrom key d (ks.drop (u + 1))
  rw [kidsFrom_past key d _ h4]
  rfl

theorem kids_next {most : Int} {to key : ByteArray} {acc : KV} {d u m : Nat} {ks : List (ByteArray × AT d)} (hm : u + m < ks.length) (h2 : (scan most to acc (kidsFrom key d ((ks.drop u).take m))).2 = true) :
    scan most to acc (kidsFrom key d ((ks.drop u).take (m + 1))) = scan most to (scan most to acc (kidsFrom key d ((ks.drop u).take m))).1 (fromOf key (AT.toL d ks[u + m].2)) := by
  have e : (ks.drop u).take (m + 1) = (ks.drop u).take m ++ [ks[u + m]] := by
    rw [List.take_succ_eq_append_getElem (by simp; omega)]
    simp
  rw [e, kidsFrom_append, scan_append, h2, if_pos rfl]
  simp [kidsFrom]
theorem kids_stopped {most : Int} {to key : ByteArray} {acc : KV} {d u m : Nat} {ks : List (ByteArray × AT d)} (h : (scan most to acc (kidsFrom key d ((ks.drop u).take m))).2 = false) :
    scan most to acc (kidsFrom key d (ks.drop u)) = ((scan most to acc (kidsFrom key d ((ks.drop u).take m))).1, false) := by
  conv => lhs; rw [← List.take_append_drop m (ks.drop u)]
  rw [kidsFrom_append, scan_append, h]; simp
theorem kids_len {key : ByteArray} {d u m : Nat} {ks : List (ByteArray × AT d)} (hm : u + m < ks.length) : (kidsFrom key d ((ks.drop u).take m)).length + (AT.toL d ks[u + m].2).length ≤ (segs (segsOf d ks)).length := by
  have h1 := length_kidsFrom key d ((ks.drop u).take m)
  have e : ks = ks.take u ++ ((ks.drop u).take m ++ ks[u + m] :: ks.drop (u + m + 1)) := by
    have e2 : ks.drop u = (ks.drop u).take m ++ (ks.drop u).drop m := (List.take_append_drop m _).symm
    rw [List.drop_drop] at e2
    rw [List.drop_eq_getElem_cons hm] at e2
    rw [← e2, List.take_append_drop]
  have e3 := congrArg (fun l => (segs (segsOf d l)).length) e
  simp only [segsOf_append, segsOf_cons, segs_append, segs_cons, List.length_append] at e3
  omega

theorem srt_kid {d : Nat} {ks : List (ByteArray × AT d)} {x : ByteArray × AT d} (hs : Srt (segs (segsOf d ks))) (hx : x ∈ ks) : Srt (AT.toL d x.2) := by
  obtain ⟨A, B, rfl⟩ := List.append_of_mem hx
  rw [segsOf_append, segsOf_cons, segs_append, segs_cons] at hs
  unfold Srt at hs ⊢
  rw [List.pairwise_append, List.pairwise_append] at hs
  exact hs.2.1.1

set_option maxRecDepth 100000 in
set_option maxHeartbeats 2000000 in
theorem each_innerN (d : Nat) (ih : EachCalls d) (C ob mb pb b n g c : Nat) (most : Int) (to key : ByteArray) (acc : KV) (ks : List (ByteArray × AT d)) (w : World) (hkn : ks.length = n)
    (hl : Lies w (d + 1) (⟨b, .slice (some ⟨g, 0, none⟩) n c, ks⟩ : Inner (AT d))) (hw : WF 1 (d + 1) (⟨b, .slice (some ⟨g, 0, none⟩) n c, ks⟩ : Inner (AT d))) (hs : Srt (segs (segsOf d ks)))
    (hbl : ∀ x ∈ AT.blocks (d + 1) (⟨b, .slice (some ⟨g, 0, none⟩) n c, ks⟩ : Inner (AT d)), x < C ∧ x ≠ ob) (hO : Out C ob mb pb most to acc w) (hlen : acc.length + (segs (segsOf d ks)).length ≤ 5000000000000) :
    Calls Try.prog 32 #[ptr b, .string key, .func (.func 33) #[] #[ptr ob, ptr mb, ptr pb]] w (EachEnd C ob mb pb most to acc (fromOf key (segs (segsOf d ks))) w) := by
  have hn1 : 1 ≤ n := by rw [← hkn]; exact hw.1
  have hn4 : n ≤ 4 := by rw [← hkn]; exact hw.2.1
  have h1c : w.cell? ⟨b, 1, none⟩ = some (.slice (some ⟨g, 0, none⟩) n c) := cell_at hl.1 1
  have hd := Chg.drew (fun _ => False) w
  have hld := hl.chg hd (d + 1) _ (fun _ _ h => h)
  have Hp : Hid (Calls Try.prog 22 #[.pointer (some ⟨b, 1, none⟩), .string key] w.drew (UnderEnd (kidCells d ks) n key w.drew)) := under22 w.drew b 1 n g c (kidCells d ks) key h1c (hkn ▸ hld.2.1) (fun i h => ⟨_, kidCells_key d ks i (by omega)⟩) (by omega)
  have Hl := Lib.hid hl
  have Hw := Lib.hid hw
  have Hs := Lib.hid hs
  have Hkn := Lib.hid hkn
  have HO := Lib.hid hO
  have Hlen := Lib.hid hlen
  have Hbl := Lib.hid hbl
  have Hih := Lib.hid ih
  have hbw := lt_of_heap hl.1
  clear hl hw hs hkn hO hlen hd hld hbl ih
  unfold ptr
  go_enter Try.func32, Try.ntmps32
  go_wp2_with (go_at_call 21; refine (leaf_no _ _ _ _ _ h1c (by omega)).mono ?_; rintro e w' ⟨rfl, rfl⟩)
  go_region_law (go_simp; go_at_call 22; refine Hp.out.mono ?_; rintro e w1 ⟨k0, u, hse, hu, rfl, hb1⟩; have h1c1 : w1.cell? ⟨b, 1, none⟩ = some (.slice (some ⟨g, 0, none⟩) n c) := (hb1.cell hbw).trans h1c; have hul : u ≤ n := by have := hse.2.1; omega)
  all_goals
    have hK : Keyed (segsOf d ks) := Hw.out.2.2.1
    obtain ⟨hup1, hup2, hup3, hup4⟩ := under_pos hK Hs.out (by rw [Hkn.out]; omega) key k0 u (by rw [Hkn.out]; exact hse) (by rw [Hkn.out]; exact hu)
    have hun : u < n := by rw [← Hkn.out]; exact hup1
    have Hf := Lib.hid (fromOf_kids hup1 hup2 hup3 hup4)
    have hb1' : Chg (fun _ => False) w w1 := (Chg.drew (fun _ => False) w).trans (below_chg hb1) (fun _ _ h => h)
    have HO1 := Lib.hid (HO.out.chg hb1' (fun _ _ h => h))
    have Hc1 := Lib.hid (hb1'.mono (T := fun x => x = ob ∨ C ≤ x) (fun _ _ h => h.elim))
    obtain ⟨pp, hpp⟩ : ∃ pp : Option Addr, pp = (if c = u then some ⟨g, 0, none⟩ else some ⟨g, u * 2, none⟩) := ⟨_, rfl⟩
    rw [← hpp]
    have Hpp := Lib.hid hpp
    obtain ⟨q, hq⟩ : ∃ q, n - u = q := ⟨_, rfl⟩
    rw [hq]
    clear hK hup1 hup2 hup3 hup4 hse hu hb1 hb1' hpp h1c h1c1 Hp HO hbw
    go_wp2
    simp only [Act.put, List.getElem_toArray, List.getElem_cons_succ, List.getElem_cons_zero, List.setIfInBounds_toArray, List.set_cons_succ, List.set_cons_zero]
    go_loopg [50] q (fun j z wr => ∃ m : Nat, m + j = q ∧ z = .int .i64 m ∧ (scan most to acc (kidsFrom key d ((ks.drop u).take m))).2 = true ∧ Out C ob mb pb most to (scan most to acc (kidsFrom key d ((ks.drop u).take m))).1 wr ∧ Chg (fun x => x = ob ∨ C ≤ x) w wr)
    case atStart => exact ⟨0, by omega, rfl, by simp [scan, kidsFrom], by simpa [scan, kidsFrom] using HO1.out, Hc1.out⟩
    case round =>
      obtain ⟨m, hmj, rfl, h2, hO, hc⟩ := hrel
      have H2 := Lib.hid h2
      have HOr := Lib.hid hO
      have Hcr := Lib.hid hc
      clear h2 hO hc HO1 Hc1
      by_cases hlt : m < q
      · have him : u + m < ks.length := by rw [Hkn.out]; omega
        have hlr := Hl.out.chg Hcr.out (d + 1) _ (fun x hx => by have := Hbl.out x hx; show ¬ (x = ob ∨ C ≤ x); omega)
        have hor : wr.ownsRow 0 54 2 (.slice (some ⟨g, 0, none⟩) n c) n (kidCells d ks) := by have := hlr.2.1; rwa [show (⟨b, .slice (some ⟨g, 0, none⟩) n c, ks⟩ : Inner (AT d)).ks.length = n from Hkn.out] at this
        obtain ⟨g0, cap0, hf0, hnc, -, hcell⟩ := row_form hor (by omega)
        cases hf0
        have hmem : ks[u + m] ∈ ks := List.getElem_mem him
        have hk1 : wr.cell? ⟨g, u * 2 + m * 2, none⟩ = some (.string ks[u + m].1) := by
          rw [show u * 2 + m * 2 = (u + m) * 2 by omega]; exact hcell _ _ (kidCells_key d ks (u + m) him)
        have hk2 : wr.cell? ⟨g, u * 2 + m * 2 + 1, none⟩ = some (.pointer (some ⟨AT.b d ks[u + m].2, 0, none⟩)) := by
          rw [show u * 2 + m * 2 + 1 = (u + m) * 2 + 1 by omega]; exact hcell _ _ (kidCells_val d ks (u + m) him)
        have hne : ¬ c = u := by omega
        have hpp : pp = some ⟨g, u * 2, none⟩ := by rw [Hpp.out, if_neg hne]
        subst hpp
        have hca := Chg.alloc (fun _ => False) wr (.cells #[.string ks[u + m].1, .pointer (some ⟨AT.b d ks[u + m].2, 0, none⟩)] 54 (0, 0))
        have hsk : Srt (AT.toL d ks[u + m].2) := srt_kid Hs.out hmem
        have hlk : (scan most to acc (kidsFrom key d ((ks.drop u).take m))).1.length + (AT.toL d ks[u + m].2).length ≤ 5000000000000 := by
          have h1 := scan_len most to (kidsFrom key d ((ks.drop u).take m)) acc
          have h2 := kids_len (key := key) him
          have h3 := Hlen.out
          omega
        have Hy := Lib.hid (Hih.out C ob mb pb most to key _ _ ks[u + m].2 ((hlr.2.2 _ hmem).chg hca d _ (fun _ _ h => h)) (WF.mono (by omega) _ _ (Hw.out.2.2.2 _ hmem)) hsk (fun x hx => Hbl.out x (by simp only [AT.blocks, List.mem_cons, List.mem_append, List.mem_flatMap]; exact .inr (.inr ⟨_, hmem, hx⟩))) (HOr.out.chg hca (fun _ _ h => h)) hlk)
        have Hx := Lib.hid (kids_next him H2.out)
        obtain ⟨a1, ha1⟩ : ∃ a1, a1 = (scan most to acc (kidsFrom key d ((ks.drop u).take m))).1 := ⟨_, rfl⟩
        rw [← ha1] at Hx HOr Hy
        obtain ⟨kk, hkk⟩ : ∃ kk, kk = ks[u + m].1 := ⟨_, rfl⟩
        obtain ⟨kid, hkid⟩ : ∃ kid, kid = ks[u + m].2 := ⟨_, rfl⟩
        rw [← hkk] at hk1 Hy
        rw [← hkid] at hk2 Hx Hy
        obtain ⟨kb, hkb⟩ : ∃ kb, kb = AT.b d kid := ⟨_, rfl⟩
        rw [← hkb] at hk2 Hy
        have hwb : IntKind.i64.wrap ((m : Int) + 1) = (m : Int) + 1 := IntWalk.i64_in _ (by omega)
        have Hcc := Lib.hid (Hcr.out.trans (Chg.alloc (fun _ => False) wr (.cells #[.string kk, .pointer (some ⟨kb, 0, none⟩)] 54 (0, 0))) (fun _ _ h => h.elim))
        clear hlr hor hcell hmem hca hsk hlk ha1 hkk hkid hkb
        unfold ptr at Hy
        go_wp2_with fail
        refine Hy.out.mono ?_
        rintro e w' ⟨rfl, hO', hc'⟩
        have Hc' := Lib.hid (Hcc.out.trans hc' (fun _ _ h => h))
        have HO' := Lib.hid hO'
        rw [← Hx.out] at HO'
        have Hr : Hid ((scan most to a1 (fromOf key (AT.toL d kid))).2 = (scan most to acc (kidsFrom key d ((ks.drop u).take (m + 1)))).2) := by show _ = _; rw [Hx.out]
        rw [Hr.out]
        clear hO' hc' hk1 hk2 Hy Hcc
        cases hst : (scan most to acc (kidsFrom key d ((ks.drop u).take (m + 1)))).2
        · have Hz : Hid (scan most to acc (fromOf key (segs (segsOf d ks))) = ((scan most to acc (kidsFrom key d ((ks.drop u).take (m + 1)))).1, false)) := by
            show scan most to acc (fromOf key (segs (segsOf d ks))) = _
            rw [Hf.out, kids_stopped hst]
          clear hst
          go_wp2
          go_ret
          exact ⟨by rw [Hz.out]; rfl, by rw [Hz.out]; exact HO'.out, Hc'.out⟩
        · have Hst := Lib.hid hst
          clear hst
          go_wp2
          go_roundg (gk - 1)
          case measure => omega
          case rel => exact ⟨m + 1, by omega, by go_num, Hst.out, HO'.out, Hc'.out⟩
      · have Hz : Hid (kidsFrom key d ((ks.drop u).take m) = fromOf key (segs (segsOf d ks))) := by
          show kidsFrom key d (List.take m (List.drop u ks)) = _
          rw [Hf.out, List.take_of_length_le (by rw [List.length_drop, Hkn.out]; omega)]
        go_wp2
        go_ret
        rw [Hz.out] at H2 HOr
        exact ⟨by rw [H2.out]; rfl, HOr.out, Hcr.out⟩

theorem each_inner (d : Nat) (ih : EachCalls d) : EachCalls (d + 1) := by
  intro C ob mb pb most to key acc w t hl hw hs hbl hO hlen
  rw [Nat.min_eq_left (by omega)] at hw
  obtain ⟨b, tv, ks⟩ := (t : Inner (AT d))
  have e := toL_inner d (⟨b, tv, ks⟩ : Inner (AT d))
  replace hs : Srt (segs (segsOf d ks)) := e ▸ hs
  replace hlen : acc.length + (segs (segsOf d ks)).length ≤ 5000000000000 := e ▸ hlen
  rw [show AT.toL (d + 1) (⟨b, tv, ks⟩ : Inner (AT d)) = segs (segsOf d ks) from e]
  have hk1 : 1 ≤ ks.length := hw.1
  have ho : w.ownsRow 0 54 2 tv ks.length (kidCells d ks) := hl.2.1
  obtain ⟨g, c, hv, -, -, -⟩ := row_form ho (show 0 < ks.length by omega)
  subst hv
  exact each_innerN d ih C ob mb pb b ks.length g c most to key acc ks w rfl hl hw hs hbl hO hlen

theorem each_calls : ∀ d, EachCalls d
  | 0 => fun C ob mb pb most to key acc w t hl hw hs hbl hO hlen => each_leaf C ob mb pb most to key acc w t hl hw hs hbl hO hlen
  | d + 1 => each_inner d (each_calls d)

end Go.Proofs.Ytempbaflcbmcpaa
