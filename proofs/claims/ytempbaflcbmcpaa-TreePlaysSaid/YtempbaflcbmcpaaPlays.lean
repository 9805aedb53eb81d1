/- TreePlays: the walk. -/
import Derived.Test.YtempbaflcbmcpaaApart
import Derived.Test.YtempbaflcbmcpaaUndo
namespace Go.Proofs.Ytempbaflcbmcpaa
open Go.RowKit

theorem puts_id (l : KV) : Srt l → puts l = l := by
  suffices h : ∀ r : KV, Srt r.reverse → puts r.reverse = r.reverse by
    intro hs
    have := h l.reverse (by simpa using hs)
    simpa using this
  intro r
  induction r with
  | nil => intro _; rfl
  | cons x r ih =>
    intro hs
    rw [List.reverse_cons] at hs ⊢
    have hs2 := List.pairwise_append.1 hs
    rw [puts_snoc, ih hs2.1]
    have := ins_mid x.1 x.2 r.reverse [] [] (fun y hy => hs2.2.2 y hy x (by simp)) (fun y hy => by cases hy)
    simpa [ins] using this

theorem act_five (k v : ByteArray) (l : KV) {d : Int} (h1 : d ≠ 1) (h2 : d ≠ 2) : act d k v l = l := by unfold act; rw [if_neg h1, if_neg h2]

/-- The tree and the reference hold the same. -/
structure Alike (w0 w : World) (tb : Nat) (S : List Nat) (rb : Nat) (R : List Nat) (L : KV) : Prop where
  both : Both w tb S L rb R L
  new : ∀ x, x ∈ S ∨ x ∈ R → w0.heap.size ≤ x
  chg : Chg (fun _ => False) w0 w

theorem Alike.step {w0 w w' : World} {tb rb : Nat} {S R : List Nat} {L : KV} {d : Int} {k s : ByteArray} {e : Ending} (h : Alike w0 w tb S rb R L) (hd : DoesPost tb S L rb R L d k s w e w') :
    ∃ S' R', e = .returned (.bool true) ∧ Alike w0 w' tb S' rb R' (act d k s L) := by
  obtain ⟨b, S', R', rfl, ht, hb, hS, hR, hc⟩ := hd
  have hz := h.chg.size
  refine ⟨S', R', by rw [ht rfl], hb, fun x hx => ?_, h.chg.trans hc (fun x hx hs => by have := h.new x hs; omega)⟩
  rcases hx with hx | hx
  · rcases hS x hx with h2 | h2
    · exact h.new x (.inl h2)
    · omega
  · rcases hR x hx with h2 | h2
    · exact h.new x (.inr h2)
    · omega
theorem Alike.quiet {w0 w w' : World} {tb rb : Nat} {S R : List Nat} {L : KV} (h : Alike w0 w tb S rb R L) (hc : Chg (fun _ => False) w w') : Alike w0 w' tb S rb R L :=
  ⟨⟨h.both.t.chg hc (fun _ _ h => h), h.both.r.chg hc (fun _ _ h => h), h.both.srt, h.both.sep⟩, h.new, h.chg.trans hc (fun _ _ h => h)⟩
/-- A clone takes the tree's place, the tree is written. -/
theorem Alike.clone {w0 w w1 w2 : World} {tb ub rb : Nat} {S S' SU R : List Nat} {L kv' : KV} (h : Alike w0 w tb S rb R L) (hU : TreeAt w1 ub SU (puts L)) (hn : ∀ x ∈ SU, w.heap.size ≤ x) (hc : Chg (fun _ => False) w w1)
    (_hT : TreeAt w2 tb S' kv') (hc2 : Chg (· ∈ S) w1 w2) : Alike w0 w2 ub SU rb R L := by
  have hz := h.chg.size
  have hr := h.both.r.lt
  have ht := h.both.t.lt
  rw [puts_id L h.both.srt] at hU
  refine ⟨⟨hU.chg hc2 (fun x hx hs => ?_), (h.both.r.chg hc (fun _ _ h => h)).chg hc2 (fun x hx hs => h.both.sep x hs hx), h.both.srt, fun x hx hxr => ?_⟩, fun x hx => ?_, (h.chg.trans hc (fun _ _ h => h)).trans hc2 (fun x hx hs => ?_)⟩
  · have := hn x hx; have := ht x hs; omega
  · have := hn x hx; have := hr x hxr; omega
  · rcases hx with hx | hx
    · have := hn x hx; omega
    · exact h.new x (.inr hx)
  · have := h.new x (.inl hs); omega

/-- The reference filled. -/
structure Filled (w0 w : World) (tb : Nat) (S : List Nat) (kv : KV) (rb : Nat) (R : List Nat) (L : KV) : Prop where
  both : Both w tb S kv rb R L
  new : ∀ x, x ∈ S ∨ x ∈ R → w0.heap.size ≤ x
  chg : Chg (fun _ => False) w0 w
theorem Filled.start {w0 w : World} {tb : Nat} {S : List Nat} {kv : KV} (hT : TreeAt w tb S kv) (hn : ∀ x ∈ S, w0.heap.size ≤ x) (hc : Chg (fun _ => False) w0 w) :
    Filled w0 (w.alloc (.cells #[.slice none 0 0] 37 (0, 0))) tb S kv w.heap.size [w.heap.size] [] := by
  have ha := Chg.alloc (fun _ => False) w (.cells #[.slice none 0 0] 37 (0, 0))
  have h0 := hc.size
  refine ⟨⟨hT.chg ha (fun _ _ h => h), ref_made w, List.Pairwise.nil, fun x hx hr => ?_⟩, fun x hx => ?_, hc.trans ha (fun _ _ h => h)⟩
  · have := hT.lt x hx
    simp only [List.mem_cons, List.not_mem_nil, or_false] at hr
    omega
  · rcases hx with hx | hx
    · exact hn x hx
    · simp only [List.mem_cons, List.not_mem_nil, or_false] at hx; omega
theorem Filled.put {w0 w w' : World} {tb rb : Nat} {S R : List Nat} {kv L : KV} {k v : ByteArray} {b : Bool} {e : Ending} (h : Filled w0 w tb S kv rb R L) (hp : RefPost rb R L (ins k v L) b w e w') :
    e = .returned (.bool b) ∧ ∃ R', Filled w0 w' tb S kv rb R' (ins k v L) := by
  obtain ⟨rfl, R', hr, hR, hc⟩ := hp
  have hz := h.chg.size
  refine ⟨rfl, R', ⟨h.both.t.chg hc (fun x hx => h.both.sep x hx), hr, srt_ins _ _ _ h.both.srt, fun x hx hxr => ?_⟩, fun x hx => ?_, h.chg.trans hc (fun x hx hs => ?_)⟩
  · rcases hR x hxr with h2 | h2
    · exact h.both.sep x hx h2
    · have := h.both.t.lt x hx; omega
  · rcases hx with hx | hx
    · exact h.new x (.inl hx)
    · rcases hR x hx with h2 | h2
      · exact h.new x (.inr h2)
      · omega
  · have := h.new x (.inr hs); omega

theorem Filled.quiet {w0 w w' : World} {tb rb : Nat} {S R : List Nat} {kv L : KV} (h : Filled w0 w tb S kv rb R L) (hc : Chg (fun _ => False) w w') : Filled w0 w' tb S kv rb R L :=
  ⟨⟨h.both.t.chg hc (fun _ _ h => h), h.both.r.chg hc (fun _ _ h => h), h.both.srt, h.both.sep⟩, h.new, h.chg.trans hc (fun _ _ h => h)⟩

def Fill (w0 : World) (tb : Nat) (S : List Nat) (kv : KV) (rb : Nat) (L : KV) (w : World) : Prop := ∃ R, Filled w0 w tb S kv rb R L
def Plays (w0 : World) (rb n : Nat) (t : Value) (w : World) : Prop := ∃ tb S R L, t = .pointer (some { block := tb, off := 0 }) ∧ Alike w0 w tb S rb R L ∧ L.length ≤ n

theorem ref_cell {w : World} {rb : Nat} {R : List Nat} {L : KV} (h : RefIs w rb R L) : ∃ p c, w.cell? ⟨rb, 0, none⟩ = some (.slice p L.length c) ∧ w.ownsRow 0 47 2 (.slice p L.length c) L.length (leafCells L) := by
  obtain ⟨v, h1, h2, -, -⟩ := h
  obtain ⟨p, c, rfl⟩ := slice_form h2
  exact ⟨p, c, cell_at h1 0, h2⟩

set_option maxRecDepth 100000 in
set_option maxHeartbeats 4000000 in
theorem treePlays_calls (w : World) (v v2 : Value) (l : KV) (acts : List ActV) (h : PairsIn w v l) (h2 : ActsIn w v2 acts) (hlen : l.length ≤ 4999999999000) (_hacts : acts.length ≤ 9000000000000) :
    Calls Try.prog 6 #[v, v2] w fun e w' => e = .returned (.bool true) ∧ Chg (fun _ => False) w w' := by
  have Hl := Lib.hid h
  have Hacts := Lib.hid h2
  obtain ⟨p, c, rfl, -⟩ := h
  obtain ⟨p2, c2, rfl, -⟩ := h2
  obtain ⟨n, hn⟩ : ∃ n, n = l.length := ⟨_, rfl⟩
  obtain ⟨q, hq⟩ : ∃ q, q = acts.length := ⟨_, rfl⟩
  rw [← hn] at hlen ⊢
  rw [← hq]
  have Hn := Lib.hid hn
  have Hq := Lib.hid hq
  have Haw := Lib.hid (awake_calls w)
  clear hn hq
  go_enter Try.func6, Try.ntmps6
  go_wp2_with fail
  refine Haw.out.mono ?_
  rintro e w0 ⟨rfl, hc0⟩
  have HC0 := Lib.hid hc0
  have Hof := Lib.hid (of_calls w0 _ l (Hl.out.chg hc0 (fun _ _ h => h)) (by rw [← Hn.out]; omega))
  rw [← Hn.out] at Hof
  clear hc0 Haw
  go_wp2_with fail
  refine Hof.out.mono ?_
  rintro e w1 ⟨tb, S1, rfl, hT, hS, hc⟩
  have Hst := Lib.hid (Filled.start hT (fun x hx => Nat.le_trans HC0.out.size (hS x hx)) (HC0.out.trans hc (fun _ _ h => h)))
  obtain ⟨rb, hrb⟩ : ∃ rb, rb = w1.heap.size := ⟨_, rfl⟩
  rw [← hrb] at Hst
  have Hf0 : Hid (Fill w tb S1 (puts l) rb (puts (l.take 0)) (w1.alloc (.cells #[.slice none 0 0] 37 (0, 0)))) := ⟨_, Hst.out⟩
  clear hT hS hc Hof HC0 Hst
  unfold ptr
  go_wp2
  rw [← hrb]
  clear hrb
  go_loopg [8] n (fun j z wr => ∃ m : Nat, m + j = n ∧ z = .int .i64 m ∧ Fill w tb S1 (puts l) rb (puts (l.take m)) wr)
  case atStart => exact ⟨0, by omega, rfl, Hf0.out⟩
  case round =>
    obtain ⟨m, hmj, rfl, hf⟩ := hrel
    clear Hf0
    have HF := Lib.hid hf
    clear hf
    have hwb : IntKind.i64.wrap ((m : Int) + 1) = (m : Int) + 1 := IntWalk.i64_in _ (by omega)
    by_cases hlt : m < n
    · have hml : m < l.length := by rw [← Hn.out]; exact hlt
      obtain ⟨R, hF⟩ := HF.out
      obtain ⟨p', c', he, hp⟩ := Hl.out.chg hF.chg (fun _ _ h => h)
      cases he
      obtain ⟨a, rfl, hk1, hk2⟩ := hp m hml
      rw [add_one] at hk2
      have hlp : (puts (l.take m)).length ≤ 5000000000000 := by
        have := length_puts (l.take m)
        simp only [List.length_take] at this
        omega
      have hFd := hF.quiet (Chg.drew (fun _ => False) wr)
      have Hput := Lib.hid (refPut_calls wr.drew rb R _ l[m].1 l[m].2 hFd.both.r hFd.both.srt hlp)
      have HF2 := Lib.hid hFd
      have Hx : Hid (ins l[m].1 l[m].2 (puts (l.take m)) = puts (l.take (m + 1))) := by
        show _ = _
        rw [List.take_succ_eq_append_getElem hml, puts_snoc]
      obtain ⟨kk, hkk⟩ : ∃ kk, kk = l[m].1 := ⟨_, rfl⟩
      obtain ⟨vv, hvv⟩ : ∃ vv, vv = l[m].2 := ⟨_, rfl⟩
      rw [← hkk, ← hvv] at Hput Hx
      rw [← hkk] at hk1
      rw [← hvv] at hk2
      unfold ptr at Hput
      have hmi : (m : Int) < (n : Int) := by omega
      clear hF hFd hp HF hlp hkk hvv
      go_wp2_with fail
      refine wp_region_still_tail 11 (by kernel_rfl) (by kernel_rfl) ?_
      simp only [World.drew_eq, List.take_succ_cons, List.take_zero, List.drop_succ_cons, List.drop_zero]
      repeat still_step
      refine wpStill_nil ?_
      go_wp2_with fail
      refine Hput.out.mono ?_
      intro e w2 hp
      obtain ⟨rfl, R', hF'⟩ := HF2.out.put hp
      rw [Hx.out] at hF'
      have HF' : Hid (Fill w tb S1 (puts l) rb (puts (l.take (m + 1))) w2) := ⟨_, hF'⟩
      clear hp hF' hk1 hk2 Hput HF2
      go_wp2
      go_roundg (gk - 1)
      case measure => omega
      case rel => exact ⟨m + 1, by omega, by go_num, HF'.out⟩
    · have Hp0 : Hid (Plays w rb (n + 0) (.pointer (some { block := tb, off := 0 })) wr) := by
        obtain ⟨R, hF⟩ := HF.out
        rw [List.take_of_length_le (by have := Hn.out; omega)] at hF
        exact ⟨tb, S1, R, puts l, rfl, ⟨hF.both, hF.new, hF.chg⟩, by have := length_puts l; have := Hn.out; omega⟩
      clear HF hwb
      obtain ⟨wo, hwo⟩ : ∃ wo, wo = wr := ⟨_, rfl⟩
      rw [← hwo] at Hp0 ⊢
      clear hwo
      go_wp2
      go_loopg [6, 9] q (fun j t z wr => ∃ m : Nat, m + j = q ∧ z = .int .i64 m ∧ m ≤ 200 ∧ Plays w rb (n + m) t wr)
      case atStart => exact ⟨0, by omega, rfl, by omega, Hp0.out⟩
      case round =>
        obtain ⟨m, hmj, rfl, hm2, hp⟩ := hrel
        clear Hp0
        have HP := Lib.hid hp
        clear hp
        have hwb : IntKind.i64.wrap ((m : Int) + 1) = (m : Int) + 1 := IntWalk.i64_in _ (by omega)
        by_cases hlt : m < q ∧ m < 200
        · obtain ⟨hlt, h200⟩ := hlt
          have hmq : m < acts.length := by rw [← Hq.out]; exact hlt
          obtain ⟨tb, S, R, L, rfl, hA, hk⟩ := HP.out
          obtain ⟨p', c', he, hp⟩ := Hacts.out.chg hA.chg (fun _ _ h => h)
          cases he
          obtain ⟨a, rfl, a1, a2, a3, a4⟩ := hp m hmq
          rw [add_one] at a2
          rw [add_two] at a3
          rw [add_three] at a4
          obtain ⟨⟨ad, ak, av, am⟩, hact⟩ : ∃ x, x = acts[m] := ⟨_, rfl⟩
          rw [← hact] at a1 a2 a3 a4
          simp only at a1 a2 a3 a4
          have HA := Lib.hid hA
          by_cases h5 : ad = 5
          · subst h5
            have Hcl := Lib.hid (clone_calls wr tb S L hA.both.t (by omega))
            have A2 := Lib.hid a2
            have A3 := Lib.hid a3
            unfold ptr at Hcl
            clear hp hact hA HP a2 a3 a4
            go_wp2_with fail
            refine Hcl.out.mono ?_
            rintro e w5 ⟨ub, SU, rfl, hU, hn, hc⟩
            have b2 := hc.cell A2.out (fun h => h)
            have b3 := hc.cell A3.out (fun h => h)
            have Hput := Lib.hid (put_tree w5.drew tb S L ak av ((HA.out.both.t.chg hc (fun _ _ h => h)).chg (Chg.drew (fun _ => False) w5) (fun _ _ h => h)) (by omega))
            have HU := Lib.hid (hU.chg (Chg.drew (fun _ => False) w5) (fun _ _ h => h))
            have HN := Lib.hid hn
            have HC := Lib.hid (hc.trans (Chg.drew (fun _ => False) w5) (fun _ _ h => h))
            have hmi : (m : Int) < (q : Int) := by omega
            unfold ptr at Hput
            unfold ptr
            clear hU hn hc Hcl A2 A3 a1
            go_wp2_with fail
            refine wp_region_still_tail 11 (by kernel_rfl) (by kernel_rfl) ?_
            simp only [World.drew_eq, List.take_succ_cons, List.take_zero, List.drop_succ_cons, List.drop_zero]
            repeat still_step
            refine wpStill_nil ?_
            go_wp2_with fail
            refine Hput.out.mono ?_
            rintro e w6 ⟨rfl, S', hT, hS, hc6⟩
            have Hfin : Hid (Plays w rb (n + (m + 1)) (.pointer (some { block := ub, off := 0 })) w6) := ⟨ub, SU, R, L, rfl, HA.out.clone HU.out HN.out HC.out hT hc6, by omega⟩
            clear hT hS hc6 Hput HU HN HC b2 b3 HA
            go_wp2
            go_roundg (gk - 1)
            case measure => omega
            case rel => exact ⟨m + 1, by omega, by go_num, by omega, Hfin.out⟩
          · have e5 : (ad == 5) = false := by simpa using h5
            have Hdoes := Lib.hid (does_calls wr tb rb S R L L ad am ak av hA.both (by omega) (by omega))
            have Hl2 := Lib.hid (act_len ad ak av hA.both.srt)
            unfold ptr at Hdoes
            clear hp hact hA HP h5
            go_wp2_with fail
            refine Hdoes.out.mono ?_
            intro e w5 hp
            obtain ⟨S', R', rfl, hA'⟩ := HA.out.step hp
            obtain ⟨L', hL'⟩ : ∃ L', L' = act ad ak av L := ⟨_, rfl⟩
            rw [← hL'] at hA'
            have hln : L'.length ≤ n + (m + 1) := by rw [hL']; have := Hl2.out; omega
            have Hlen := Lib.hid (len_calls w5 tb S' L' hA'.both.t)
            have Hsh := Lib.hid (short_calls w5 tb S' L' hA'.both.t (by omega))
            have Hfin : Hid (Plays w rb (n + (m + 1)) (.pointer (some { block := tb, off := 0 })) w5) := ⟨tb, S', R', L', rfl, hA', hln⟩
            obtain ⟨p9, c9, hcell, -⟩ := ref_cell hA'.both.r
            obtain ⟨nl, hnl⟩ : ∃ nl, nl = L'.length := ⟨_, rfl⟩
            rw [← hnl] at hcell Hlen hln
            unfold ptr at Hlen Hsh
            clear hp hA' Hdoes HA a1 a2 a3 a4 hnl hL' Hl2
            go_wp2_with fail
            refine Hlen.out.mono ?_
            rintro e w' ⟨rfl, rfl⟩
            clear Hlen
            go_wp2_with fail
            refine Hsh.out.mono ?_
            rintro e w' ⟨rfl, rfl⟩
            clear Hsh
            go_wp2
            go_roundg (gk - 1)
            case measure => omega
            case rel => exact ⟨m + 1, by omega, by go_num, by omega, Hfin.out⟩
        · have hd : (m : Int) < q → decide ((m : Int) < 200) = false := fun h => decide_eq_false (by omega)
          obtain ⟨tb, S, R, L, rfl, hA, hk⟩ := HP.out
          obtain ⟨pr, cr, hcell, hrow⟩ := ref_cell hA.both.r
          have Hall := Lib.hid (all_calls wr tb S L hA.both.t (by omega))
          have HA := Lib.hid hA
          have Hrow := Lib.hid hrow
          have HL := Lib.hid (show L.length ≤ 5000000000000 by omega)
          obtain ⟨nl, hnl⟩ : ∃ nl, nl = L.length := ⟨_, rfl⟩
          have Hnl := Lib.hid hnl
          rw [← hnl] at hcell hk
          unfold ptr at Hall
          clear hA HP hrow hnl hwb
          by_cases hq2 : m < q
          all_goals
            go_wp2_with fail
            refine Hall.out.mono ?_
            rintro e w5 ⟨v12, rfl, ho, hc5⟩
            have h0 := hc5.cell hcell (fun h => h)
            have Hsame := Lib.hid (same_calls w5 v12 (.slice pr nl cr) L L (pairsIn_row ho) (pairsIn_row (by rw [Hnl.out]; exact ownsRow_chg hc5 Hrow.out (fun _ _ h => h))) HL.out)
            have HC5 := Lib.hid (HA.out.chg.trans hc5 (fun _ _ h => h))
            clear ho hc5 Hall HA Hrow hcell
            go_wp2_with fail
            refine Hsame.out.mono ?_
            rintro e w6 ⟨rfl, hc6⟩
            have HC6 := Lib.hid (HC5.out.trans hc6 (fun _ _ h => h))
            simp only [decide_true]
            clear hc6 HC5 Hsame h0
            go_wp2
            go_ret
            exact ⟨rfl, HC6.out⟩

end Go.Proofs.Ytempbaflcbmcpaa
