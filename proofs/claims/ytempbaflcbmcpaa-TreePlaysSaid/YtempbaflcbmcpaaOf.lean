/- Trees by what they hold: Put, Delete, Get, Len, Scan, All, Of, Clone. -/
import Derived.Test.YtempbaflcbmcpaaScan
import Derived.Test.YtempbaflcbmcpaaB
import Derived.Test.YtempbaflcbmcpaaG
namespace Go.Proofs.Ytempbaflcbmcpaa
open Go.RowKit

theorem put_tree (w : World) (tb : Nat) (S : List Nat) (kv : KV) (k v : ByteArray) (h : TreeAt w tb S kv) (hlen : kv.length ≤ 4611686018427387904) :
    Calls Try.prog 16 #[ptr tb, .string k, .string v] w (PutPost tb S kv k v w) := by
  obtain ⟨d, t, h, rfl⟩ := h
  exact putN w tb d kv.length t kv k v rfl h hlen
theorem delete_tree (w : World) (tb : Nat) (S : List Nat) (kv : KV) (k : ByteArray) (h : TreeAt w tb S kv) (hlen : kv.length ≤ 4611686018427387904) :
    Calls Try.prog 11 #[ptr tb, .string k] w (DelPost tb S kv k w) := by
  obtain ⟨d, t, h, rfl⟩ := h
  exact deleteN w tb d kv.length t kv k rfl h hlen
theorem get_tree (w : World) (tb : Nat) (S : List Nat) (kv : KV) (k : ByteArray) (h : TreeAt w tb S kv) :
    Calls Try.prog 10 #[ptr tb, .string k] w (GetPost kv k w) := by
  obtain ⟨d, t, h, -⟩ := h
  exact getN w tb d t kv k h

set_option maxRecDepth 100000 in
theorem all_calls (w : World) (tb : Nat) (S : List Nat) (kv : KV) (h : TreeAt w tb S kv) (hlen : kv.length ≤ 5000000000000) :
    Calls Try.prog 12 #[ptr tb] w (ScanPost kv w) := by
  have Hs := Lib.hid (scan_calls w tb S kv ⟨#[]⟩ ⟨#[]⟩ (kv.length : Nat) h hlen)
  have e : (scan (kv.length : Nat) ⟨#[]⟩ [] (fromOf ⟨#[]⟩ kv)).1 = kv := by
    have h1 : fromOf ⟨#[]⟩ kv = kv := dropWhile_none _ _ (fun x _ => by
      show lt x.1 ⟨#[]⟩ = false
      unfold lt
      rw [empty_toList]
      cases x.1.toList <;> rfl)
    rw [h1, scan_all _ _ _ (by simp)]
    rfl
  rw [e] at Hs
  obtain ⟨d, t, h, -⟩ := h
  have h1 : w.cell? ⟨tb, 1, none⟩ = some (.int .i64 (kv.length : Nat)) := cell_at h.hb 1
  clear h e
  unfold ptr at Hs
  unfold ptr
  go_enter Try.func12, Try.ntmps12
  go_wp2_with fail
  refine Hs.out.mono ?_
  rintro e w' ⟨v, rfl, h2, h3⟩
  have H2 := Lib.hid h2
  have H3 := Lib.hid h3
  clear h2 h3 Hs h1
  go_wp2
  go_ret
  exact ⟨_, rfl, H2.out, H3.out⟩

/-- A slice of pairs, wherever its cells lie. -/
def PairsIn (w : World) (v : Value) (l : KV) : Prop :=
  ∃ p c, v = .slice p l.length c ∧ ∀ i (h : i < l.length), ∃ a : Addr, p = some a ∧ w.cell? (a.add (i * 2)) = some (.string l[i].1) ∧ w.cell? (a.add (i * 2 + 1)) = some (.string l[i].2)

theorem pairsIn_row {w : World} {B : Nat} {v : Value} {l : KV} (h : w.ownsRow B 47 2 v l.length (leafCells l)) : PairsIn w v l := by
  have h0 := ownsRow_le h (Nat.zero_le _)
  obtain ⟨p, c, hv⟩ := slice_formB h
  refine ⟨p, c, hv, fun i hi => ?_⟩
  rcases h0.2 with ⟨-, h1⟩ | ⟨g, cap, cur, hv2, -, -, -, -, -, -⟩
  · omega
  · rw [hv] at hv2
    cases hv2
    subst hv
    have hc := h0.cells (g := g) rfl
    exact ⟨_, rfl, hc _ _ (leafCells_key l i hi), hc _ _ (leafCells_val l i hi)⟩
theorem PairsIn.chg {S : Nat → Prop} {w w' : World} {v : Value} {l : KV} (h : PairsIn w v l) (hc : Chg S w w') (hS : ∀ x, x < w.heap.size → ¬ S x) : PairsIn w' v l := by
  obtain ⟨p, c, hv, h⟩ := h
  refine ⟨p, c, hv, fun i hi => ?_⟩
  obtain ⟨a, ha, h1, h2⟩ := h i hi
  exact ⟨a, ha, hc.cell h1 (hS _ (World.block_lt_of_cell? w _ h1)), hc.cell h2 (hS _ (World.block_lt_of_cell? w _ h2))⟩
theorem add_one (a : Addr) (n : Nat) : a.add (n + 1) = { block := (a.add n).block, off := (a.add n).off + 1 } := by
  unfold Addr.add
  by_cases h : n = 0
  · subst h; simp
  · simp [h]; omega

/-- What many pairs come to, put one by one. -/
def puts (l : KV) : KV := l.foldl (fun acc x => ins x.1 x.2 acc) []
theorem puts_snoc (l : KV) (x : ByteArray × ByteArray) : puts (l ++ [x]) = ins x.1 x.2 (puts l) := by simp [puts]
theorem srt_puts (l : KV) : Srt (puts l) := by
  unfold puts
  have : ∀ (l acc : KV), Srt acc → Srt (l.foldl (fun acc x => ins x.1 x.2 acc) acc) := by
    intro l
    induction l with
    | nil => intro acc h; exact h
    | cons x l ih => intro acc h; exact ih _ (srt_ins _ _ _ h)
  exact this l [] List.Pairwise.nil
theorem length_ins_le (k v : ByteArray) (l : KV) (h : Srt l) : (ins k v l).length ≤ l.length + 1 := by
  have := length_ins k v l h
  cases hg : get k l with
  | none => rw [this.1 hg]; omega
  | some x => rw [this.2 (by rw [hg]; simp)]; omega
theorem length_puts : ∀ (l : KV), (puts l).length ≤ l.length := by
  unfold puts
  have : ∀ (l acc : KV), Srt acc → (l.foldl (fun acc x => ins x.1 x.2 acc) acc).length ≤ acc.length + l.length := by
    intro l
    induction l with
    | nil => intro acc h; simp
    | cons x l ih =>
      intro acc h
      have h1 := ih _ (srt_ins x.1 x.2 _ h)
      have h2 := length_ins_le x.1 x.2 acc h
      simp only [List.foldl_cons, List.length_cons]
      omega
  intro l
  have := this l [] List.Pairwise.nil
  simpa using this

/-- A tree that a call has made. -/
def TreePost (kv : KV) (w : World) (e : Ending) (w' : World) : Prop :=
  ∃ tb S, e = .returned (ptr tb) ∧ TreeAt w' tb S kv ∧ (∀ x ∈ S, w.heap.size ≤ x) ∧ Chg (fun _ => False) w w'

set_option maxRecDepth 100000 in
set_option maxHeartbeats 1000000 in
theorem of_calls (w : World) (v : Value) (l : KV) (h : PairsIn w v l) (hlen : l.length ≤ 5000000000000) :
    Calls Try.prog 8 #[v] w (TreePost (puts l) w) := by
  have Hl := Lib.hid h
  obtain ⟨p, c, rfl, -⟩ := h
  obtain ⟨n, hn⟩ : ∃ n, n = l.length := ⟨_, rfl⟩
  rw [← hn] at hlen ⊢
  have Hn := Lib.hid hn
  have Hnew := Lib.hid (new_calls w)
  clear hn
  go_enter Try.func8, Try.ntmps8
  go_wp2_with fail
  refine Hnew.out.mono ?_
  rintro e w1 ⟨tb, rfl, S1, hT1, hS1, hc1⟩
  have HT1 := Lib.hid hT1
  have HS1 := Lib.hid hS1
  have Hc1 := Lib.hid hc1
  clear hT1 hS1 hc1 Hnew
  unfold ptr
  go_wp2
  go_loopg [9] n (fun j z wr => ∃ m : Nat, m + j = n ∧ z = .int .i64 m ∧ ∃ S, TreeAt wr tb S (puts (l.take m)) ∧ (∀ x ∈ S, w.heap.size ≤ x) ∧ Chg (fun _ => False) w wr)
  case atStart => exact ⟨0, by omega, rfl, S1, HT1.out, HS1.out, Hc1.out⟩
  case round =>
    obtain ⟨m, hmj, rfl, S, hT, hS, hc⟩ := hrel
    clear HT1 HS1 Hc1
    have hwb : IntKind.i64.wrap ((m : Int) + 1) = (m : Int) + 1 := IntWalk.i64_in _ (by omega)
    by_cases hlt : m < n
    · have hml : m < l.length := by rw [← Hn.out]; exact hlt
      obtain ⟨p', c', he, hp⟩ := Hl.out.chg hc (fun _ _ h => h)
      cases he
      obtain ⟨a, rfl, hk1, hk2⟩ := hp m hml
      rw [add_one] at hk2
      have hca := Chg.alloc (fun _ => False) wr (.cells #[.string l[m].1, .string l[m].2] 47 (0, 0))
      have hlp : (puts (l.take m)).length ≤ 4611686018427387904 := by
        have := length_puts (l.take m)
        simp only [List.length_take] at this
        omega
      have Hp := Lib.hid (put_tree _ tb S (puts (l.take m)) l[m].1 l[m].2 (hT.chg hca (fun _ _ h => h)) hlp)
      have Hca := Lib.hid (hc.trans hca (fun _ _ h => h))
      have Hx : Hid (ins l[m].1 l[m].2 (puts (l.take m)) = puts (l.take (m + 1))) := by
        show _ = _
        rw [List.take_succ_eq_append_getElem hml, puts_snoc]
      have HS := Lib.hid hS
      obtain ⟨kk, hkk⟩ : ∃ kk, kk = l[m].1 := ⟨_, rfl⟩
      obtain ⟨vv, hvv⟩ : ∃ vv, vv = l[m].2 := ⟨_, rfl⟩
      rw [← hkk, ← hvv] at Hp Hca Hx
      rw [← hkk] at hk1
      rw [← hvv] at hk2
      unfold ptr at Hp
      clear hT hS hc hca hlp hkk hvv hp
      go_wp2_with fail
      refine Hp.out.mono ?_
      rintro e w2 ⟨rfl, S', hT', hS', hc'⟩
      rw [Hx.out] at hT'
      have HT' := Lib.hid hT'
      have HS' := Lib.hid hS'
      have Hc' := Lib.hid hc'
      clear hT' hS' hc' hk1 hk2 Hp
      go_wp2
      go_roundg (gk - 1)
      case measure => omega
      case rel =>
        have hsz := Hca.out.size
        refine ⟨m + 1, by omega, by go_num, S', HT'.out, fun x hx => ?_, Hca.out.trans Hc'.out (fun x hx h => by have := HS.out x h; omega)⟩
        rcases HS'.out x hx with h | h
        · exact HS.out x h
        · omega
    · have HT := Lib.hid hT
      have HS := Lib.hid hS
      have Hc := Lib.hid hc
      clear hT hS hc
      go_wp2
      go_ret
      have := HT.out
      rw [List.take_of_length_le (by have := Hn.out; omega)] at this
      exact ⟨tb, S, rfl, this, HS.out, Hc.out⟩

set_option maxRecDepth 100000 in
theorem clone_calls (w : World) (tb : Nat) (S : List Nat) (kv : KV) (h : TreeAt w tb S kv) (hlen : kv.length ≤ 5000000000000) :
    Calls Try.prog 13 #[ptr tb] w (TreePost (puts kv) w) := by
  have Ha := Lib.hid (all_calls w tb S kv h hlen)
  clear h
  unfold ptr at Ha
  unfold ptr
  go_enter Try.func13, Try.ntmps13
  go_wp2_with fail
  refine Ha.out.mono ?_
  rintro e w1 ⟨v, rfl, h2, h3⟩
  have Ho := Lib.hid (of_calls w1 v kv (pairsIn_row h2) hlen)
  have H3 := Lib.hid h3
  clear h2 h3 Ha
  go_wp2_with fail
  refine Ho.out.mono ?_
  rintro e w2 ⟨tb2, S2, rfl, h4, h5, h6⟩
  have H4 := Lib.hid h4
  have H5 := Lib.hid h5
  have H6 := Lib.hid h6
  clear h4 h5 h6 Ho
  unfold ptr
  go_wp2
  go_ret
  exact ⟨tb2, S2, rfl, H4.out, fun x hx => Nat.le_trans H3.out.size (H5.out x hx), H3.out.trans H6.out (fun _ _ h => h)⟩

end Go.Proofs.Ytempbaflcbmcpaa
