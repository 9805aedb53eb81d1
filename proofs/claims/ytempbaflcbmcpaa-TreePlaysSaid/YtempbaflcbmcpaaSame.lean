/- The reference's Same; short. -/
import Derived.Test.YtempbaflcbmcpaaOf
namespace Go.Proofs.Ytempbaflcbmcpaa
open Go.RowKit

theorem pairs_ext {l l2 : KV} (hl : l.length = l2.length) (h : ∀ i (h : i < l.length) (h2 : i < l2.length), l[i] = l2[i]) : l = l2 := List.ext_getElem hl h

set_option maxRecDepth 100000 in
set_option maxHeartbeats 2000000 in
theorem same_calls (w : World) (v v2 : Value) (l l2 : KV) (h : PairsIn w v l) (h2 : PairsIn w v2 l2) (hlen : l.length ≤ 5000000000000) :
    Calls Try.prog 15 #[v, v2] w fun e w' => e = .returned (.bool (decide (l = l2))) ∧ Chg (fun _ => False) w w' := by
  have Hl := Lib.hid h
  have Hg := Lib.hid h2
  obtain ⟨p, c, rfl, -⟩ := h
  obtain ⟨p2, c2, rfl, -⟩ := h2
  by_cases hne : l.length = l2.length
  · obtain ⟨n, hn⟩ : ∃ n, n = l.length := ⟨_, rfl⟩
    rw [← hne, ← hn]
    rw [← hn] at hlen
    have Hn := Lib.hid hn
    have Hne := Lib.hid hne
    clear hn hne
    go_enter Try.func15, Try.ntmps15
    go_wp2
    go_loopg [5] n (fun j z wr => ∃ m : Nat, m + j = n ∧ z = .int .i64 m ∧ (∀ i (h : i < l.length) (h2 : i < l2.length), i < m → l[i] = l2[i]) ∧ Chg (fun _ => False) w wr)
    case atStart => exact ⟨0, by omega, rfl, fun i _ _ h => absurd h (Nat.not_lt_zero i), Chg.refl _ _⟩
    case round =>
      obtain ⟨m, hmj, rfl, hall, hc⟩ := hrel
      have Hall := Lib.hid hall
      have Hc := Lib.hid hc
      clear hall hc
      have hwb : IntKind.i64.wrap ((m : Int) + 1) = (m : Int) + 1 := IntWalk.i64_in _ (by omega)
      by_cases hlt : m < n
      · have hm1 : m < l.length := by rw [← Hn.out]; exact hlt
        have hm2 : m < l2.length := by rw [← Hne.out]; exact hm1
        obtain ⟨p', c', he, hp⟩ := Hl.out.chg Hc.out (fun _ _ h => h)
        cases he
        obtain ⟨a, rfl, hk1, hk2⟩ := hp m hm1
        obtain ⟨p', c', he, hp'⟩ := Hg.out.chg Hc.out (fun _ _ h => h)
        cases he
        obtain ⟨a2, rfl, hk3, hk4⟩ := hp' m hm2
        rw [add_one] at hk2 hk4
        obtain ⟨x1, hx1⟩ : ∃ x1, x1 = l[m].1 := ⟨_, rfl⟩
        obtain ⟨x2, hx2⟩ : ∃ x2, x2 = l[m].2 := ⟨_, rfl⟩
        obtain ⟨y1, hy1⟩ : ∃ y1, y1 = l2[m].1 := ⟨_, rfl⟩
        obtain ⟨y2, hy2⟩ : ∃ y2, y2 = l2[m].2 := ⟨_, rfl⟩
        rw [← hx1] at hk1
        rw [← hx2] at hk2
        rw [← hy1] at hk3
        rw [← hy2] at hk4
        have Hx : Hid (l[m] = (x1, x2)) := by show l[m] = (x1, x2); rw [hx1, hx2]
        have Hy : Hid (l2[m] = (y1, y2)) := by show l2[m] = (y1, y2); rw [hy1, hy2]
        clear hx1 hx2 hy1 hy2 hp hp'
        cases hb1 : (x1.toList == y1.toList)
        · have Hf : Hid (decide (l = l2) = false) := decide_eq_false (fun e => by
            subst e
            have := Hx.out.symm.trans Hy.out
            simp only [Prod.mk.injEq] at this
            rw [this.1] at hb1
            simp at hb1)
          go_wp2
          go_quiet (fail)
          go_wp2
          go_ret
          exact ⟨by rw [Hf.out]; rfl, Hc.out.trans (Chg.drewN _ _ _) (fun _ _ h => h)⟩
        · cases hb2 : (x2.toList == y2.toList)
          · have Hf : Hid (decide (l = l2) = false) := decide_eq_false (fun e => by
              subst e
              have := Hx.out.symm.trans Hy.out
              simp only [Prod.mk.injEq] at this
              rw [this.2] at hb2
              simp at hb2)
            go_wp2
            go_quiet (fail)
            go_wp2
            go_ret
            exact ⟨by rw [Hf.out]; rfl, Hc.out.trans (Chg.drewN _ _ _) (fun _ _ h => h)⟩
          · have He : Hid (l[m] = l2[m]) := by
              have e1 : x1 = y1 := toList_inj (by simpa using hb1)
              have e2 : x2 = y2 := toList_inj (by simpa using hb2)
              show l[m] = l2[m]
              rw [Hx.out, Hy.out, e1, e2]
            go_wp2
            go_quiet (fail)
            go_wp2
            go_roundg (gk - 1)
            case measure => omega
            case rel =>
              refine ⟨m + 1, by omega, by go_num, fun i h h2 hi => ?_, Hc.out.trans (Chg.drewN _ _ _) (fun _ _ h => h)⟩
              by_cases e : i = m
              · subst e; exact He.out
              · exact Hall.out i h h2 (by omega)
      · have Hf : Hid (decide (l = l2) = true) := decide_eq_true (pairs_ext Hne.out (fun i h h2 => Hall.out i h h2 (by have := Hn.out; omega)))
        go_wp2
        go_ret
        exact ⟨by rw [Hf.out]; rfl, Hc.out⟩
  · have hd : ((l.length : Int) == (l2.length : Int)) = false := by simp; omega
    have Hf : Hid (decide (l = l2) = false) := decide_eq_false (fun e : l = l2 => hne (congrArg List.length e))
    obtain ⟨n, hn⟩ : ∃ n, l.length = n := ⟨_, rfl⟩
    obtain ⟨n2, hn2⟩ : ∃ n2, l2.length = n2 := ⟨_, rfl⟩
    rw [hn, hn2] at hd
    rw [hn, hn2]
    clear hne hn hn2
    go_enter Try.func15, Try.ntmps15
    go_wp2
    go_ret
    exact ⟨by rw [Hf.out]; rfl, Chg.refl _ _⟩

/-- Whatever is two wide everywhere is as wide as it is deep. -/
theorem size_lb : ∀ (d : Nat) (t : AT d), WF 2 d t → 2 ^ (d + 1) ≤ (AT.toL d t).length
  | 0, t, h => h.1
  | d + 1, t, h => by
    obtain ⟨b, tv, ks⟩ := (t : Inner (AT d))
    rw [show AT.toL (d + 1) (⟨b, tv, ks⟩ : Inner (AT d)) = segs (segsOf d ks) from toL_inner d _]
    obtain ⟨h1, -, -, h4⟩ := h
    replace h1 : 2 ≤ ks.length := h1
    have : ∀ ks : List (ByteArray × AT d), (∀ x ∈ ks, WF 2 d x.2) → ks.length * 2 ^ (d + 1) ≤ (segs (segsOf d ks)).length := by
      intro ks
      induction ks with
      | nil => intro _; simp
      | cons x ks ih =>
        intro h
        have a := ih (fun y hy => h y (by simp [hy]))
        have b := size_lb d x.2 (h x (by simp))
        rw [segsOf_cons, segs_cons, List.length_append, List.length_cons, Nat.add_mul]
        simp only
        omega
    have a := this ks h4
    have b : 2 * 2 ^ (d + 1) ≤ ks.length * 2 ^ (d + 1) := Nat.mul_le_mul_right _ h1
    have c : 2 ^ (d + 1 + 1) = 2 * 2 ^ (d + 1) := by rw [Nat.pow_succ]; omega
    omega

theorem get_ins (k v : ByteArray) : ∀ l : KV, get k (ins k v l) = some v
  | [] => by simp [ins, get]
  | x :: r => by
    unfold ins
    split
    · simp [get]
    · split
      · simp [get]
      · rename_i h
        rw [get, if_neg h]
        exact get_ins k v r
theorem get_none_ne {k : ByteArray} : ∀ {l : KV}, get k l = none → ∀ x ∈ l, x.1 ≠ k
  | y :: r, h, x, hx => by
    unfold get at h
    split at h
    · cases h
    · rename_i hy
      rcases List.mem_cons.1 hx with rfl | hx
      · exact hy
      · exact get_none_ne h x hx
theorem del_id {k : ByteArray} {l : KV} (h : ∀ x ∈ l, x.1 ≠ k) : del k l = l := by
  unfold del
  rw [List.filter_eq_self]
  intro x hx
  simp [h x hx]
theorem del_ins {k v : ByteArray} : ∀ {l : KV}, get k l = none → del k (ins k v l) = l
  | [], _ => by simp [ins, del]
  | x :: r, h => by
    have hne := get_none_ne h
    unfold ins
    split
    · have := del_id hne
      unfold del at this ⊢
      rw [List.filter_cons_of_neg (by simp)]
      exact this
    · split
      · rename_i he; exact absurd he (hne x (by simp))
      · rename_i he
        have ih := del_ins (k := k) (v := v) (l := r) (by unfold get at h; rw [if_neg he] at h; exact h)
        unfold del at ih ⊢
        rw [List.filter_cons_of_pos (by simp [he]), ih]
theorem ins_back {k v x : ByteArray} : ∀ {l : KV}, Srt l → get k l = some x → ins k x (ins k v l) = l
  | y :: r, hs, h => by
    have hs2 := List.pairwise_cons.1 hs
    by_cases h1 : lt k y.1 = true
    · exfalso
      have : get k (y :: r) = none := by
        have := get_mid k [] [] (y :: r) (by simp) (fun z hz => by
          rcases List.mem_cons.1 hz with rfl | hz
          · exact h1
          · exact lt_trans h1 (hs2.1 z hz))
        simpa [get] using this
      rw [this] at h; cases h
    · by_cases h2 : y.1 = k
      · obtain ⟨y1, y2⟩ := y
        simp only at h2 h1
        subst h2
        simp only [get, if_true] at h
        cases h
        simp [ins, lt_irrefl]
      · unfold get at h
        rw [if_neg h2] at h
        have ih := ins_back (v := v) hs2.2 h
        simp only [ins, if_neg h1, if_neg h2, ih]

end Go.Proofs.Ytempbaflcbmcpaa
