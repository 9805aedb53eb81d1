/- TreeApart: the walk. -/
import Derived.Test.YtempbaflcbmcpaaDoes
namespace Go.Proofs.Ytempbaflcbmcpaa
open Go.RowKit

/-- An act, read. -/
structure ActV where
  d : Int
  k : ByteArray
  v : ByteArray
  m : Int

def ActsIn (w : World) (v : Value) (l : List ActV) : Prop :=
  ∃ p c, v = .slice p l.length c ∧ ∀ i (h : i < l.length), ∃ a : Addr, p = some a ∧ w.cell? (a.add (i * 4)) = some (.int .i64 l[i].d) ∧ w.cell? (a.add (i * 4 + 1)) = some (.string l[i].k) ∧
    w.cell? (a.add (i * 4 + 2)) = some (.string l[i].v) ∧ w.cell? (a.add (i * 4 + 3)) = some (.int .i64 l[i].m)
theorem ActsIn.chg {S : Nat → Prop} {w w' : World} {v : Value} {l : List ActV} (h : ActsIn w v l) (hc : Chg S w w') (hS : ∀ x, x < w.heap.size → ¬ S x) : ActsIn w' v l := by
  obtain ⟨p, c, hv, h⟩ := h
  refine ⟨p, c, hv, fun i hi => ?_⟩
  obtain ⟨a, ha, h1, h2, h3, h4⟩ := h i hi
  exact ⟨a, ha, hc.cell h1 (hS _ (World.block_lt_of_cell? w _ h1)), hc.cell h2 (hS _ (World.block_lt_of_cell? w _ h2)), hc.cell h3 (hS _ (World.block_lt_of_cell? w _ h3)), hc.cell h4 (hS _ (World.block_lt_of_cell? w _ h4))⟩
theorem add_two (a : Addr) (n : Nat) : a.add (n + 2) = { block := (a.add n).block, off := (a.add n).off + 2 } := by
  unfold Addr.add
  by_cases h : n = 0
  · subst h; simp
  · simp [h]; omega
theorem add_three (a : Addr) (n : Nat) : a.add (n + 3) = { block := (a.add n).block, off := (a.add n).off + 3 } := by
  unfold Addr.add
  by_cases h : n = 0
  · subst h; simp
  · simp [h]; omega

theorem act_len (d : Int) (k v : ByteArray) {l : KV} (hs : Srt l) : (act d k v l).length ≤ l.length + 1 := by
  unfold act
  split
  · exact length_ins_le k v l hs
  · split
    · unfold del; exact Nat.le_trans (List.length_filter_le _ _) (Nat.le_add_right _ _)
    · exact Nat.le_add_right _ _

/-- A tree and what it told, apart from another tree and the reference. -/
structure Apart (w0 w : World) (tb : Nat) (ST : List Nat) (kv : KV) (v : Value) (ub : Nat) (SU : List Nat) (kvU : KV) (rb : Nat) (R : List Nat) (L : KV) : Prop where
  both : Both w ub SU kvU rb R L
  t : TreeAt w tb ST kv
  row : w.ownsRow 0 47 2 v kv.length (leafCells kv)
  far : ∀ x, x ∈ ST ∨ v.ownBlock = some x → x ∉ SU ∧ x ∉ R
  new : ∀ x, x ∈ SU ∨ x ∈ R → w0.heap.size ≤ x
  chg : Chg (fun _ => False) w0 w

theorem Apart.step {w0 w w' : World} {tb ub rb : Nat} {ST SU R : List Nat} {kv kvU L : KV} {v : Value} {d : Int} {k s : ByteArray} {e : Ending} (h : Apart w0 w tb ST kv v ub SU kvU rb R L) (hd : DoesPost ub SU kvU rb R L d k s w e w') :
    ∃ b SU' R', e = .returned (.bool b) ∧ Apart w0 w' tb ST kv v ub SU' (act d k s kvU) rb R' (act d k s L) := by
  obtain ⟨b, S', R', rfl, -, hb, hS, hR, hc⟩ := hd
  have hold : ∀ x, x ∈ ST ∨ v.ownBlock = some x → x < w.heap.size := fun x hx => by
    rcases hx with hx | hx
    · exact h.t.lt x hx
    · exact (h.row.lt x hx).2
  have hnot : ∀ x, x ∈ ST ∨ v.ownBlock = some x → ¬ (x ∈ SU ∨ x ∈ R) := fun x hx hs => by
    have := h.far x hx
    rcases hs with hs | hs
    · exact this.1 hs
    · exact this.2 hs
  refine ⟨b, S', R', rfl, hb, h.t.chg hc (fun x hx => hnot x (.inl hx)), ownsRow_chg hc h.row (fun x hx => hnot x (.inr hx)), fun x hx => ⟨fun hs => ?_, fun hs => ?_⟩, fun x hx => ?_, h.chg.trans hc (fun x hx hs => ?_)⟩
  · rcases hS x hs with h2 | h2
    · exact (h.far x hx).1 h2
    · have := hold x hx; omega
  · rcases hR x hs with h2 | h2
    · exact (h.far x hx).2 h2
    · have := hold x hx; omega
  · have := h.chg.size
    rcases hx with hx | hx
    · rcases hS x hx with h2 | h2
      · exact h.new x (.inl h2)
      · omega
    · rcases hR x hx with h2 | h2
      · exact h.new x (.inr h2)
      · omega
  · have := h.new x hs; omega

theorem ref_made (w : World) : RefIs (w.alloc (.cells #[.slice none 0 0] 37 (0, 0))) w.heap.size [w.heap.size] [] :=
  ⟨.slice none 0 0, heap_alloc_new w _, World.ownsRow_nil _ _ _ _, rfl, by simp [Value.ownBlock]⟩

/-- The begin: two trees apart, what the one tells, a new reference. -/
theorem Apart.start {w0 w w' : World} {tb ub : Nat} {ST SU : List Nat} {kv kvU : KV} {v : Value} (hT : TreeAt w tb ST kv) (hU : TreeAt w ub SU kvU) (hTU : ∀ x ∈ ST, x ∉ SU) (hnU : ∀ x ∈ SU, w0.heap.size ≤ x) (hc : Chg (fun _ => False) w0 w)
    (ho : w'.ownsRow w.heap.size 47 2 v kv.length (leafCells kv)) (hc' : Chg (fun _ => False) w w') :
    Apart w0 (w'.alloc (.cells #[.slice none 0 0] 37 (0, 0))) tb ST kv v ub SU kvU w'.heap.size [w'.heap.size] [] := by
  have ha := Chg.alloc (fun _ => False) w' (.cells #[.slice none 0 0] 37 (0, 0))
  have hc2 := hc'.trans ha (fun _ _ h => h)
  have hs := hc'.size
  have h0 := hc.size
  refine ⟨⟨hU.chg hc2 (fun _ _ h => h), ref_made w', List.Pairwise.nil, fun x hx hr => ?_⟩, hT.chg hc2 (fun _ _ h => h), ownsRow_le (ownsRow_chg ha ho (fun _ _ h => h)) (Nat.zero_le _), fun x hx => ⟨fun hx2 => ?_, fun hx2 => ?_⟩, fun x hx => ?_, hc.trans hc2 (fun _ _ h => h)⟩
  · have := hU.lt x hx
    simp only [List.mem_cons, List.not_mem_nil, or_false] at hr
    omega
  · rcases hx with hx | hx
    · exact hTU x hx hx2
    · have := (ho.lt x hx).1
      have := hU.lt x hx2
      omega
  · simp only [List.mem_cons, List.not_mem_nil, or_false] at hx2
    rcases hx with hx | hx
    · have := hT.lt x hx; omega
    · have := (ho.lt x hx).2; omega
  · rcases hx with hx | hx
    · exact hnU x hx
    · simp only [List.mem_cons, List.not_mem_nil, or_false] at hx; omega

def Gone (w0 : World) (tb : Nat) (ST : List Nat) (kv : KV) (v : Value) (ub rb n m : Nat) (w : World) : Prop :=
  ∃ SU kvU R L, Apart w0 w tb ST kv v ub SU kvU rb R L ∧ kvU.length ≤ n + m ∧ L.length ≤ m

set_option maxRecDepth 100000 in
set_option maxHeartbeats 4000000 in
theorem treeApart_calls (w : World) (v v2 : Value) (l : KV) (acts : List ActV) (other : Bool) (h : PairsIn w v l) (h2 : ActsIn w v2 acts) (hlen : l.length ≤ 4999999999000) (hacts : acts.length ≤ 9000000000000) :
    Calls Try.prog 4 #[v, v2, .bool other] w fun e w' => e = .returned (.bool true) ∧ Chg (fun _ => False) w w' := by
  have Hl := Lib.hid h
  have Hacts := Lib.hid h2
  obtain ⟨p, c, rfl, -⟩ := h
  obtain ⟨p2, c2, rfl, -⟩ := h2
  obtain ⟨n, hn⟩ : ∃ n, n = l.length := ⟨_, rfl⟩
  obtain ⟨q, hq⟩ : ∃ q, q = acts.length := ⟨_, rfl⟩
  rw [← hn] at hlen ⊢
  rw [← hq] at hacts ⊢
  have Hn := Lib.hid hn
  have Hq := Lib.hid hq
  have Haw := Lib.hid (awake_calls w)
  clear hn hq
  cases other
  · go_enter Try.func4, Try.ntmps4
    go_wp2_with fail
    refine Haw.out.mono ?_
    rintro e w0 ⟨rfl, hc0⟩
    have HC0 := Lib.hid hc0
    have Hof := Lib.hid (of_calls w0 _ l (Hl.out.chg hc0 (fun _ _ h => h)) (by rw [← Hn.out]; omega))
    rw [← Hn.out] at Hof
    clear hc0 Haw
    go_wp2_with fail
    refine Hof.out.mono ?_
    rintro e w1 ⟨tb, S1, rfl, hT, hS, hc⟩
    obtain ⟨kv1, hkv1⟩ : ∃ kv1, kv1 = puts l := ⟨_, rfl⟩
    rw [← hkv1] at hT
    have hkn : kv1.length ≤ n := by rw [hkv1, Hn.out]; exact length_puts l
    have HT := Lib.hid hT
    have HS := Lib.hid (show ∀ x ∈ S1, w.heap.size ≤ x from fun x hx => Nat.le_trans HC0.out.size (hS x hx))
    have HC := Lib.hid (HC0.out.trans hc (fun _ _ h => h))
    have Hcl := Lib.hid (clone_calls w1 tb S1 kv1 hT (by omega))
    unfold ptr at Hcl
    unfold ptr
    clear hT hS hc Hof HC0 hkv1
    go_wp2_with fail
    refine Hcl.out.mono ?_
    rintro e w2 ⟨ub, S2, rfl, hT2, hS2, hc2⟩
    obtain ⟨kv2, hkv2⟩ : ∃ kv2, kv2 = puts kv1 := ⟨_, rfl⟩
    rw [← hkv2] at hT2
    have hkn2 : kv2.length ≤ n := by rw [hkv2]; exact Nat.le_trans (length_puts kv1) hkn
    have HT2 := Lib.hid hT2
    have HT1 := Lib.hid (HT.out.chg hc2 (fun _ _ h => h))
    have HC2 := Lib.hid (HC.out.trans hc2 (fun _ _ h => h))
    have HS2 := Lib.hid (show ∀ x ∈ S2, w.heap.size ≤ x from fun x hx => Nat.le_trans HC.out.size (hS2 x hx))
    have FarA := Lib.hid (show ∀ x ∈ S1, x ∉ S2 from fun x hx hx2 => by have := HT.out.lt x hx; have := hS2 x hx2; omega)
    have FarB := Lib.hid (show ∀ x ∈ S2, x ∉ S1 from fun x hx hx2 => by have := HT.out.lt x hx2; have := hS2 x hx; omega)
    have HS1 := HS
    unfold ptr
    clear hT2 hS2 hc2 Hcl HT HS HC hkv2
    have Hall := Lib.hid (all_calls w2 tb S1 kv1 HT1.out (by omega))
    unfold ptr at Hall
    go_wp2_with fail
    refine Hall.out.mono ?_
    rintro e w3 ⟨v8, rfl, ho, hc3⟩
    have Hstart := Lib.hid (Apart.start HT1.out HT2.out FarA.out HS2.out HC2.out ho hc3)
    obtain ⟨p8, c8, hv8⟩ := slice_formB ho
    have Hv8 := Lib.hid hv8
    obtain ⟨rb, hrb⟩ : ∃ rb, rb = w3.heap.size := ⟨_, rfl⟩
    have Hg : Hid (Gone w tb S1 kv1 v8 ub rb n 0 (w3.alloc (.cells #[.slice none 0 0] 37 (0, 0)))) := ⟨_, _, _, _, hrb ▸ Hstart.out, by omega, by simp⟩
    have HKT := Lib.hid (show (kv1).length ≤ n by omega)
    clear ho hc3 Hall HT1 HT2 HS1 HS2 FarA FarB HC2 Hstart hv8
    go_wp2
    rw [← hrb]
    clear hrb
    go_loopg [13] q (fun j z wr => ∃ m : Nat, m + j = q ∧ z = .int .i64 m ∧ Gone w tb S1 kv1 v8 ub rb n m wr)
    case atStart => exact ⟨0, by omega, rfl, Hg.out⟩
    case round =>
      obtain ⟨m, hmj, rfl, hg⟩ := hrel
      clear Hg
      have HG := Lib.hid hg
      clear hg
      have hwb : IntKind.i64.wrap ((m : Int) + 1) = (m : Int) + 1 := IntWalk.i64_in _ (by omega)
      by_cases hlt : m < q ∧ m < 100
      · obtain ⟨hlt, h100⟩ := hlt
        have hmq : m < acts.length := by rw [← Hq.out]; exact hlt
        obtain ⟨SU, kvU, R, L, hA, hk1, hk2⟩ := HG.out
        obtain ⟨p', c', he, hp⟩ := Hacts.out.chg hA.chg (fun _ _ h => h)
        cases he
        obtain ⟨a, rfl, a1, a2, a3, a4⟩ := hp m hmq
        rw [add_one] at a2
        rw [add_two] at a3
        rw [add_three] at a4
        obtain ⟨⟨ad, ak, av, am⟩, hact⟩ : ∃ x, x = acts[m] := ⟨_, rfl⟩
        rw [← hact] at a1 a2 a3 a4
        simp only at a1 a2 a3 a4
        have Hdoes := Lib.hid (does_calls wr ub rb SU R kvU L ad am ak av hA.both (by omega) (by omega))
        have HA := Lib.hid hA
        have Hl1 := Lib.hid (act_len ad ak av hA.both.t.srt)
        have Hl2 := Lib.hid (act_len ad ak av hA.both.srt)
        unfold ptr at Hdoes
        clear hp hact hA HG
        by_cases h5 : ad < 5
        · go_wp2_with fail
          refine Hdoes.out.mono ?_
          intro e w5 hp
          obtain ⟨b, SU', R', rfl, hA'⟩ := HA.out.step hp
          have HA' : Hid (Gone w tb S1 kv1 v8 ub rb n (m + 1) w5) := ⟨_, _, _, _, hA', by have := Hl1.out; omega, by have := Hl2.out; omega⟩
          clear hp hA' Hdoes HA a1 a2 a3 a4
          go_wp2
          go_roundg (gk - 1)
          case measure => omega
          case rel => exact ⟨m + 1, by omega, by go_num, HA'.out⟩
        · have HA' : Hid (Gone w tb S1 kv1 v8 ub rb n (m + 1) wr) := ⟨_, _, _, _, HA.out, by omega, by omega⟩
          clear Hdoes HA
          go_wp2
          go_roundg (gk - 1)
          case measure => omega
          case rel => exact ⟨m + 1, by omega, by go_num, HA'.out⟩
      · have hd : (m : Int) < q → decide ((m : Int) < 100) = false := fun h => decide_eq_false (by omega)
        have HKT2 := HKT.out
        obtain ⟨SU, kvU, R, L, hA, -, -⟩ := HG.out
        have Hall := Lib.hid (all_calls wr tb S1 kv1 hA.t (by omega))
        have HA := Lib.hid hA
        unfold ptr at Hall
        clear hA HG
        by_cases hq2 : m < q
        all_goals
          go_wp2_with fail
          refine Hall.out.mono ?_
          rintro e w5 ⟨v11, rfl, ho, hc5⟩
          have Hsame := Lib.hid (same_calls w5 v8 v11 kv1 kv1 (pairsIn_row (ownsRow_chg hc5 HA.out.row (fun _ _ h => h))) (pairsIn_row ho) (by omega))
          have HC5 := Lib.hid (HA.out.chg.trans hc5 (fun _ _ h => h))
          clear ho hc5 Hall HA
          go_wp2_with fail
          refine Hsame.out.mono ?_
          rintro e w6 ⟨rfl, hc6⟩
          have HC6 := Lib.hid (HC5.out.trans hc6 (fun _ _ h => h))
          simp only [decide_true]
          clear hc6 HC5 Hsame
          go_wp2
          go_ret
          exact ⟨rfl, HC6.out⟩
  · go_enter Try.func4, Try.ntmps4
    go_wp2_with fail
    refine Haw.out.mono ?_
    rintro e w0 ⟨rfl, hc0⟩
    have HC0 := Lib.hid hc0
    have Hof := Lib.hid (of_calls w0 _ l (Hl.out.chg hc0 (fun _ _ h => h)) (by rw [← Hn.out]; omega))
    rw [← Hn.out] at Hof
    clear hc0 Haw
    go_wp2_with fail
    refine Hof.out.mono ?_
    rintro e w1 ⟨tb, S1, rfl, hT, hS, hc⟩
    obtain ⟨kv1, hkv1⟩ : ∃ kv1, kv1 = puts l := ⟨_, rfl⟩
    rw [← hkv1] at hT
    have hkn : kv1.length ≤ n := by rw [hkv1, Hn.out]; exact length_puts l
    have HT := Lib.hid hT
    have HS := Lib.hid (show ∀ x ∈ S1, w.heap.size ≤ x from fun x hx => Nat.le_trans HC0.out.size (hS x hx))
    have HC := Lib.hid (HC0.out.trans hc (fun _ _ h => h))
    have Hcl := Lib.hid (clone_calls w1 tb S1 kv1 hT (by omega))
    unfold ptr at Hcl
    unfold ptr
    clear hT hS hc Hof HC0 hkv1
    go_wp2_with fail
    refine Hcl.out.mono ?_
    rintro e w2 ⟨ub, S2, rfl, hT2, hS2, hc2⟩
    obtain ⟨kv2, hkv2⟩ : ∃ kv2, kv2 = puts kv1 := ⟨_, rfl⟩
    rw [← hkv2] at hT2
    have hkn2 : kv2.length ≤ n := by rw [hkv2]; exact Nat.le_trans (length_puts kv1) hkn
    have HT2 := Lib.hid hT2
    have HT1 := Lib.hid (HT.out.chg hc2 (fun _ _ h => h))
    have HC2 := Lib.hid (HC.out.trans hc2 (fun _ _ h => h))
    have HS2 := Lib.hid (show ∀ x ∈ S2, w.heap.size ≤ x from fun x hx => Nat.le_trans HC.out.size (hS2 x hx))
    have FarA := Lib.hid (show ∀ x ∈ S1, x ∉ S2 from fun x hx hx2 => by have := HT.out.lt x hx; have := hS2 x hx2; omega)
    have FarB := Lib.hid (show ∀ x ∈ S2, x ∉ S1 from fun x hx hx2 => by have := HT.out.lt x hx2; have := hS2 x hx; omega)
    have HS1 := HS
    unfold ptr
    clear hT2 hS2 hc2 Hcl HT HS HC hkv2
    have Hall := Lib.hid (all_calls w2 ub S2 kv2 HT2.out (by omega))
    unfold ptr at Hall
    go_wp2_with fail
    refine Hall.out.mono ?_
    rintro e w3 ⟨v8, rfl, ho, hc3⟩
    have Hstart := Lib.hid (Apart.start HT2.out HT1.out FarB.out HS1.out HC2.out ho hc3)
    obtain ⟨p8, c8, hv8⟩ := slice_formB ho
    have Hv8 := Lib.hid hv8
    obtain ⟨rb, hrb⟩ : ∃ rb, rb = w3.heap.size := ⟨_, rfl⟩
    have Hg : Hid (Gone w ub S2 kv2 v8 tb rb n 0 (w3.alloc (.cells #[.slice none 0 0] 37 (0, 0)))) := ⟨_, _, _, _, hrb ▸ Hstart.out, by omega, by simp⟩
    have HKT := Lib.hid (show (kv2).length ≤ n by omega)
    clear ho hc3 Hall HT1 HT2 HS1 HS2 FarA FarB HC2 Hstart hv8
    go_wp2
    rw [← hrb]
    clear hrb
    go_loopg [13] q (fun j z wr => ∃ m : Nat, m + j = q ∧ z = .int .i64 m ∧ Gone w ub S2 kv2 v8 tb rb n m wr)
    case atStart => exact ⟨0, by omega, rfl, Hg.out⟩
    case round =>
      obtain ⟨m, hmj, rfl, hg⟩ := hrel
      clear Hg
      have HG := Lib.hid hg
      clear hg
      have hwb : IntKind.i64.wrap ((m : Int) + 1) = (m : Int) + 1 := IntWalk.i64_in _ (by omega)
      by_cases hlt : m < q ∧ m < 100
      · obtain ⟨hlt, h100⟩ := hlt
        have hmq : m < acts.length := by rw [← Hq.out]; exact hlt
        obtain ⟨SU, kvU, R, L, hA, hk1, hk2⟩ := HG.out
        obtain ⟨p', c', he, hp⟩ := Hacts.out.chg hA.chg (fun _ _ h => h)
        cases he
        obtain ⟨a, rfl, a1, a2, a3, a4⟩ := hp m hmq
        rw [add_one] at a2
        rw [add_two] at a3
        rw [add_three] at a4
        obtain ⟨⟨ad, ak, av, am⟩, hact⟩ : ∃ x, x = acts[m] := ⟨_, rfl⟩
        rw [← hact] at a1 a2 a3 a4
        simp only at a1 a2 a3 a4
        have Hdoes := Lib.hid (does_calls wr tb rb SU R kvU L ad am ak av hA.both (by omega) (by omega))
        have HA := Lib.hid hA
        have Hl1 := Lib.hid (act_len ad ak av hA.both.t.srt)
        have Hl2 := Lib.hid (act_len ad ak av hA.both.srt)
        unfold ptr at Hdoes
        clear hp hact hA HG
        by_cases h5 : ad < 5
        · go_wp2_with fail
          refine Hdoes.out.mono ?_
          intro e w5 hp
          obtain ⟨b, SU', R', rfl, hA'⟩ := HA.out.step hp
          have HA' : Hid (Gone w ub S2 kv2 v8 tb rb n (m + 1) w5) := ⟨_, _, _, _, hA', by have := Hl1.out; omega, by have := Hl2.out; omega⟩
          clear hp hA' Hdoes HA a1 a2 a3 a4
          go_wp2
          go_roundg (gk - 1)
          case measure => omega
          case rel => exact ⟨m + 1, by omega, by go_num, HA'.out⟩
        · have HA' : Hid (Gone w ub S2 kv2 v8 tb rb n (m + 1) wr) := ⟨_, _, _, _, HA.out, by omega, by omega⟩
          clear Hdoes HA
          go_wp2
          go_roundg (gk - 1)
          case measure => omega
          case rel => exact ⟨m + 1, by omega, by go_num, HA'.out⟩
      · have hd : (m : Int) < q → decide ((m : Int) < 100) = false := fun h => decide_eq_false (by omega)
        have HKT2 := HKT.out
        obtain ⟨SU, kvU, R, L, hA, -, -⟩ := HG.out
        have Hall := Lib.hid (all_calls wr ub S2 kv2 hA.t (by omega))
        have HA := Lib.hid hA
        unfold ptr at Hall
        clear hA HG
        by_cases hq2 : m < q
        all_goals
          go_wp2_with fail
          refine Hall.out.mono ?_
          rintro e w5 ⟨v11, rfl, ho, hc5⟩
          have Hsame := Lib.hid (same_calls w5 v8 v11 kv2 kv2 (pairsIn_row (ownsRow_chg hc5 HA.out.row (fun _ _ h => h))) (pairsIn_row ho) (by omega))
          have HC5 := Lib.hid (HA.out.chg.trans hc5 (fun _ _ h => h))
          clear ho hc5 Hall HA
          go_wp2_with fail
          refine Hsame.out.mono ?_
          rintro e w6 ⟨rfl, hc6⟩
          have HC6 := Lib.hid (HC5.out.trans hc6 (fun _ _ h => h))
          simp only [decide_true]
          clear hc6 HC5 Hsame
          go_wp2
          go_ret
          exact ⟨rfl, HC6.out⟩

end Go.Proofs.Ytempbaflcbmcpaa
