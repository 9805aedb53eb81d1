/- The reference: At, Get. -/
import Derived.Test.YtempbaflcbmcpaaSame
namespace Go.Proofs.Ytempbaflcbmcpaa
open Go.RowKit

/-- The reference's tree, its blocks, and what it holds. -/
def RefIs (w : World) (rb : Nat) (R : List Nat) (L : KV) : Prop :=
  ∃ v, w.heap[rb]? = some (.cells #[v] 37 (0, 0)) ∧ w.ownsRow 0 47 2 v L.length (leafCells L) ∧ R = rb :: v.ownBlock.toList ∧ rb ∉ v.ownBlock.toList
theorem RefIs.chg {S : Nat → Prop} {w w' : World} {rb : Nat} {R : List Nat} {L : KV} (h : RefIs w rb R L) (hc : Chg S w w') (hS : ∀ x ∈ R, ¬ S x) : RefIs w' rb R L := by
  obtain ⟨v, h1, h2, rfl, h4⟩ := h
  exact ⟨v, hc.at h1 (hS _ (by simp)), ownsRow_chg hc h2 (fun k hk => hS k (by simp [hk])), rfl, h4⟩
theorem RefIs.lt {w : World} {rb : Nat} {R : List Nat} {L : KV} (h : RefIs w rb R L) : ∀ x ∈ R, x < w.heap.size := by
  obtain ⟨v, h1, h2, rfl, h4⟩ := h
  intro x hx
  rcases List.mem_cons.1 hx with rfl | hx
  · exact lt_of_heap h1
  · exact (h2.lt x (by simpa using hx)).2

/-- Where a key stands in a list, and whether it is there. -/
structure AtPos (L : KV) (key : ByteArray) (i : Nat) (b : Bool) : Prop where
  pos : Pos L key i
  yes : b = true → ∃ h : i < L.length, L[i].1 = key
  no : b = false → ∀ h : i < L.length, L[i].1 ≠ key

theorem AtPos.isSome {L : KV} {key : ByteArray} {i : Nat} {b : Bool} (h : AtPos L key i b) (hs : Srt L) : (get key L).isSome = b := by
  cases b with
  | true =>
    obtain ⟨h1, h2⟩ := h.yes rfl
    rw [h.pos.get_found hs h1 h2]; rfl
  | false => rw [h.pos.get_not hs (h.no rfl)]; rfl

theorem at_pos {L : KV} {key : ByteArray} {m : Nat} (hs : Srt L) (hm : m ≤ L.length) (h1 : ∀ x ∈ L.take m, lt x.1 key = true) (h2 : ∀ h : m < L.length, lt L[m].1 key = false) : Pos L key m :=
  pos_of_search hs key m hm (fun h h0 => h1 _ (by
    rw [List.mem_take_iff_getElem]
    exact ⟨m - 1, by omega, rfl⟩)) h2

set_option maxRecDepth 100000 in
set_option maxHeartbeats 2000000 in
theorem at_calls (w : World) (rb : Nat) (R : List Nat) (L : KV) (key : ByteArray) (h : RefIs w rb R L) (hs : Srt L) (hlen : L.length ≤ 5000000000000) :
    Calls Try.prog 31 #[ptr rb, .string key] w fun e w' => ∃ i b, AtPos L key i b ∧ e = .returned (.tuple #[.int .i64 (i : Nat), .bool b]) ∧ Chg (fun _ => False) w w' := by
  obtain ⟨v, hb, ho, -, -⟩ := h
  obtain ⟨p, c, hv⟩ := slice_form ho
  subst hv
  obtain ⟨n, hn⟩ : ∃ n, n = L.length := ⟨_, rfl⟩
  rw [← hn] at hb ho hlen
  have h0c : w.cell? ⟨rb, 0, none⟩ = some (.slice p n c) := cell_at hb 0
  have Ho := Lib.hid ho
  have Hs := Lib.hid hs
  have Hn := Lib.hid hn
  clear hb ho hs hn
  unfold ptr
  go_enter Try.func31, Try.ntmps31
  go_wp2
  go_loopg [6] n (fun j z wr => ∃ m : Nat, m + j = n ∧ z = .int .i64 m ∧ (∀ x ∈ L.take m, lt x.1 key = true) ∧ wr = w)
  case atStart => exact ⟨0, by omega, rfl, by simp, rfl⟩
  case round =>
    obtain ⟨m, hmj, rfl, hall, rfl⟩ := hrel
    have Hall := Lib.hid hall
    clear hall
    have hwb : IntKind.i64.wrap ((m : Int) + 1) = (m : Int) + 1 := IntWalk.i64_in _ (by omega)
    by_cases hlt : m < n
    · have hml : m < L.length := by rw [← Hn.out]; exact hlt
      obtain ⟨g, cap, hf, hnc, -, hcell⟩ := row_form Ho.out (by omega)
      cases hf
      have hk : wr.cell? ⟨g, m * 2, none⟩ = some (.string L[m].1) := hcell _ _ (leafCells_key L m hml)
      obtain ⟨kk, hkk⟩ : ∃ kk, kk = L[m].1 := ⟨_, rfl⟩
      rw [← hkk] at hk
      have Hkk := Lib.hid hkk
      clear hcell hkk
      cases hl : Op.bytesLess kk.toList key.toList
      · have Hp : Hid (Pos L key m) := at_pos Hs.out (by have := Hn.out; omega) Hall.out (fun _ => by rw [← Hkk.out]; exact hl)
        cases he : (kk.toList == key.toList)
        · have Hr : Hid (AtPos L key m false) := ⟨Hp.out, (fun h => by cases h), (fun _ _ e => by rw [Hkk.out, e] at he; simp at he)⟩
          go_wp2
          go_quiet (fail)
          go_wp2
          go_ret2
          exact ⟨m, false, Hr.out, rfl, Chg.drewN _ _ _⟩
        · have Hr : Hid (AtPos L key m true) := ⟨Hp.out, fun _ => ⟨hml, by rw [← Hkk.out]; exact toList_inj (by simpa using he)⟩, (fun h => by cases h)⟩
          go_wp2
          go_quiet (fail)
          go_wp2
          go_ret2
          exact ⟨m, true, Hr.out, rfl, Chg.drewN _ _ _⟩
      · have Hn1 : Hid (∀ x ∈ L.take (m + 1), lt x.1 key = true) := fun x hx => by
          rw [List.take_succ_eq_append_getElem hml] at hx
          rcases List.mem_append.1 hx with hx | hx
          · exact Hall.out x hx
          · simp only [List.mem_cons, List.not_mem_nil, or_false] at hx
            rw [hx, ← Hkk.out]; exact hl
        go_wp2
        go_roundg (gk - 1)
        case measure => omega
        case rel => exact ⟨m + 1, by omega, by go_num, Hn1.out, rfl⟩
    · have hmn : m = n := by omega
      subst hmn
      have hd : decide ((m : Int) < (m : Int)) = false := decide_eq_false (by omega)
      have Hr : Hid (AtPos L key m false) := ⟨at_pos Hs.out (by have := Hn.out; omega) Hall.out (fun h => by have := Hn.out; omega), fun h => (by cases h), fun _ h => (by have := Hn.out; omega)⟩
      go_wp2
      go_quiet (fail)
      go_wp2
      go_ret2
      exact ⟨m, false, Hr.out, rfl, Chg.drewN _ _ _⟩

set_option maxRecDepth 100000 in
theorem refGet_calls (w : World) (rb : Nat) (R : List Nat) (L : KV) (key : ByteArray) (h : RefIs w rb R L) (hs : Srt L) (hlen : L.length ≤ 5000000000000) :
    Calls Try.prog 26 #[ptr rb, .string key] w (GetPost L key w) := by
  have Hat := Lib.hid (at_calls w rb R L key h hs hlen)
  obtain ⟨v, hb, ho, -, -⟩ := h
  obtain ⟨p, c, hv⟩ := slice_form ho
  subst hv
  obtain ⟨n, hn⟩ : ∃ n, n = L.length := ⟨_, rfl⟩
  rw [← hn] at hb ho hlen
  have Hb := Lib.hid hb
  have Ho := Lib.hid ho
  have Hs := Lib.hid hs
  have Hn := Lib.hid hn
  clear hb ho hs hn
  unfold ptr at Hat
  unfold ptr
  go_enter Try.func26, Try.ntmps26
  go_wp2_with fail
  refine Hat.out.mono ?_
  rintro e w1 ⟨i, b, hp, rfl, hc⟩
  have Hp := Lib.hid hp
  have h0c : w1.cell? ⟨rb, 0, none⟩ = some (.slice p n c) := cell_at (hc.at Hb.out (fun h => h)) 0
  have ho1 := ownsRow_chg hc Ho.out (fun _ _ h => h)
  have Hc := Lib.hid hc
  clear hp hc Hat
  cases b with
  | false =>
    have Hf : Hid (get key L = none) := Hp.out.pos.get_not Hs.out (Hp.out.no rfl)
    clear ho1
    go_wp2
    go_ret2
    exact ⟨by rw [Hf.out]; rfl, Hc.out⟩
  | true =>
    obtain ⟨hi, he⟩ := Hp.out.yes rfl
    have Hf : Hid (get key L = some L[i].2) := Hp.out.pos.get_found Hs.out hi he
    have hin : i < n := by rw [Hn.out]; exact hi
    obtain ⟨g, cap, hf, hnc, -, hcell⟩ := row_form ho1 (by omega)
    cases hf
    have hk : w1.cell? ⟨g, i * 2 + 1, none⟩ = some (.string L[i].2) := hcell _ _ (leafCells_val L i hi)
    obtain ⟨vv, hvv⟩ : ∃ vv, vv = L[i].2 := ⟨_, rfl⟩
    rw [← hvv] at hk Hf
    clear hcell ho1 hvv
    go_wp2
    go_ret2
    exact ⟨by rw [Hf.out]; rfl, Hc.out⟩

end Go.Proofs.Ytempbaflcbmcpaa
