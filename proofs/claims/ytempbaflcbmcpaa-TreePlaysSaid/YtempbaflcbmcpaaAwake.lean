/- The chapter's examples. -/
import Derived.Test.YtempbaflcbmcpaaOf
namespace Go.Proofs.Ytempbaflcbmcpaa
open Go.RowKit

def sA : ByteArray := ⟨#[97]⟩
def sAA : ByteArray := ⟨#[97, 97]⟩
def sB : ByteArray := ⟨#[98]⟩
def s1 : ByteArray := ⟨#[49]⟩
def s2 : ByteArray := ⟨#[50]⟩
def s3 : ByteArray := ⟨#[51]⟩

theorem ex_lt1 : lt sA sB = true := by kernel_rfl
theorem ex_lt2 : lt sB sA = false := by kernel_rfl
theorem ex_lt3 : lt sA sAA = true := by kernel_rfl
theorem ex_lt4 : lt sB sAA = false := by kernel_rfl
theorem ex_ne : sA ≠ sB := by intro h; have := ex_lt1; rw [h, lt_irrefl] at this; cases this
theorem ex_ne' : sB ≠ sA := fun h => ex_ne h.symm
theorem ex_i1 : ins sB s1 [] = [(sB, s1)] := rfl
theorem ex_g1 : get sB [] = none := rfl
theorem ex_g2 : get sA [(sB, s1)] = none := by simp [get, ex_ne']
theorem ex_i2 : ins sA s2 [(sB, s1)] = [(sA, s2), (sB, s1)] := by simp [ins, ex_lt1]
theorem ex_g3 : get sB [(sA, s2), (sB, s1)] = some s1 := by simp [get, ex_ne]
theorem ex_i3 : ins sB s3 [(sA, s2), (sB, s1)] = [(sA, s2), (sB, s3)] := by simp [ins, ex_lt2, ex_ne, lt_irrefl]
theorem ex_s : (scan 9 ⟨#[]⟩ [] (fromOf sAA [(sA, s2), (sB, s3)])).1 = [(sB, s3)] := by
  have : fromOf sAA [(sA, s2), (sB, s3)] = [(sB, s3)] := by simp [fromOf, ex_lt3, ex_lt4]
  rw [this, scan_all _ _ _ (by decide)]; rfl
theorem ex_g4 : get sA [(sA, s2), (sB, s3)] = some s2 := by simp [get]
theorem ex_d1 : del sA [(sA, s2), (sB, s3)] = [(sB, s3)] := by simp [del, ex_ne']
theorem ex_g5 : get sA [(sB, s3)] = none := by simp [get, ex_ne']
theorem ex_d2 : del sA [(sB, s3)] = [(sB, s3)] := by simp [del, ex_ne']
theorem ex_g6 : get sB [(sB, s3)] = some s3 := by simp [get]

theorem put_bit {w w' : World} {tb : Nat} {S : List Nat} {kv kv' : KV} {k v : ByteArray} {e : Ending} {o : Option ByteArray} (h : PutPost tb S kv k v w e w') (hg : get k kv = o) (hi : ins k v kv = kv') :
    e = .returned (.bool o.isSome) ∧ ∃ S', TreeAt w' tb S' kv' ∧ (∀ x ∈ S', x ∈ S ∨ w.heap.size ≤ x) ∧ Chg (· ∈ S) w w' := by
  subst hg; subst hi; exact h
theorem del_bit {w w' : World} {tb : Nat} {S : List Nat} {kv kv' : KV} {k : ByteArray} {e : Ending} {o : Option ByteArray} (h : DelPost tb S kv k w e w') (hg : get k kv = o) (hi : del k kv = kv') :
    e = .returned (.bool o.isSome) ∧ ∃ S', TreeAt w' tb S' kv' ∧ (∀ x ∈ S', x ∈ S ∨ w.heap.size ≤ x) ∧ Chg (· ∈ S) w w' := by
  subst hg; subst hi; exact h

/-- A slice that lies apart from a tree's blocks. -/
def Kept (w : World) (S : List Nat) (v : Value) (l : KV) : Prop := w.ownsRow 0 47 2 v l.length (leafCells l) ∧ ∀ k, v.ownBlock = some k → k ∉ S
theorem Kept.step {w w' : World} {S S' : List Nat} {v : Value} {l : KV} (h : Kept w S v l) (hc : Chg (· ∈ S) w w') (hs : ∀ x ∈ S', x ∈ S ∨ w.heap.size ≤ x) : Kept w' S' v l :=
  ⟨ownsRow_chg hc h.1 h.2, fun k hk hx => by
    rcases hs k hx with hx | hx
    · exact h.2 k hk hx
    · have := (h.1.lt k hk).2; omega⟩
theorem Kept.quiet {w w' : World} {S : List Nat} {v : Value} {l : KV} (h : Kept w S v l) (hc : Chg (fun _ => False) w w') : Kept w' S v l := ⟨ownsRow_chg hc h.1 (fun _ _ h => h), h.2⟩
theorem kept_new {w w' : World} {S : List Nat} {v : Value} {l : KV} (h : w'.ownsRow w.heap.size 47 2 v l.length (leafCells l)) (hs : ∀ x ∈ S, x < w.heap.size) : Kept w' S v l :=
  ⟨ownsRow_le h (Nat.zero_le _), fun k hk hx => by have := (h.lt k hk).1; have := hs k hx; omega⟩
theorem new_step {w0 w w' : World} {S S' : List Nat} (h0 : Chg (fun _ => False) w0 w) (hs0 : ∀ x ∈ S, w0.heap.size ≤ x) (hc : Chg (· ∈ S) w w') (hs : ∀ x ∈ S', x ∈ S ∨ w.heap.size ≤ x) : Chg (fun _ => False) w0 w' ∧ ∀ x ∈ S', w0.heap.size ≤ x :=
  ⟨h0.trans hc (fun x hx h => by have := hs0 x h; omega), fun x hx => by
    rcases hs x hx with h | h
    · exact hs0 x h
    · exact Nat.le_trans h0.size h⟩

set_option maxRecDepth 100000 in
set_option maxHeartbeats 2000000 in
theorem awake_calls (w : World) : Calls Try.prog 7 #[] w fun e w' => e = .returned (.bool true) ∧ Chg (fun _ => False) w w' := by
  have Hnew := Lib.hid (new_calls w)
  go_enter Try.func7, Try.ntmps7
  go_wp2_with fail
  refine Hnew.out.mono ?_
  rintro e w1 ⟨tb, rfl, S1, hT1, hS1, hc1⟩
  have Hput := Lib.hid (put_tree w1 tb S1 [] ⟨#[98]⟩ ⟨#[49]⟩ hT1 (by simp))
  have HS := Lib.hid hS1
  have HC := Lib.hid hc1
  unfold ptr at Hput
  unfold ptr
  clear Hnew hT1 hS1 hc1
  go_wp2_with fail
  refine Hput.out.mono ?_
  intro e w2 hp
  obtain ⟨rfl, S2, hT, hS, hc⟩ := put_bit hp ex_g1 ex_i1
  obtain ⟨hC2, hS2⟩ := new_step HC.out HS.out hc hS
  have Hput2 := Lib.hid (put_tree w2 tb S2 _ ⟨#[97]⟩ ⟨#[50]⟩ hT (by simp))
  have HS2 := Lib.hid hS2
  have HC2 := Lib.hid hC2
  unfold ptr at Hput2
  clear hp hT hS hc hC2 hS2 Hput HS HC
  go_wp2_with fail
  refine Hput2.out.mono ?_
  intro e w3 hp
  obtain ⟨rfl, S3, hT, hS, hc⟩ := put_bit hp ex_g2 ex_i2
  obtain ⟨hC2, hS2⟩ := new_step HC2.out HS2.out hc hS
  have Hput3 := Lib.hid (put_tree w3 tb S3 _ ⟨#[98]⟩ ⟨#[51]⟩ hT (by simp))
  have HS3 := Lib.hid hS2
  have HC3 := Lib.hid hC2
  unfold ptr at Hput3
  clear hp hT hS hc hC2 hS2 Hput2 HS2 HC2
  go_wp2_with fail
  refine Hput3.out.mono ?_
  intro e w4 hp
  obtain ⟨rfl, S4, hT, hS, hc⟩ := put_bit hp ex_g3 ex_i3
  obtain ⟨hC2, hS2⟩ := new_step HC3.out HS3.out hc hS
  have HT4 := Lib.hid hT
  have HS4 := Lib.hid hS2
  have HC4 := Lib.hid hC2
  have Ha := Lib.hid (all_calls w4 tb S4 _ hT (by simp))
  unfold ptr at Ha
  clear hp hT hS hc hC2 hS2 Hput3 HS3 HC3
  go_wp2_with fail
  refine Ha.out.mono ?_
  rintro e w5 ⟨v5, rfl, h5, hc5⟩
  have HK5 := Lib.hid (kept_new (S := S4) h5 HT4.out.lt)
  have HT5 := Lib.hid (HT4.out.chg hc5 (fun _ _ h => h))
  have HC5 := Lib.hid (HC4.out.trans hc5 (fun _ _ h => h))
  have Hs := Lib.hid (scan_calls w5 tb S4 _ ⟨#[97, 97]⟩ ⟨#[]⟩ 9 HT5.out (by simp))
  unfold ptr at Hs
  clear h5 hc5 HT4 HC4 Ha
  go_wp2_with fail
  refine Hs.out.mono ?_
  intro e w6 hp
  rw [show (scan 9 ⟨#[]⟩ [] (fromOf ⟨#[97, 97]⟩ [(sA, s2), (sB, s3)])).1 = [(sB, s3)] from ex_s] at hp
  obtain ⟨v6, rfl, h6, hc6⟩ := hp
  have HL6 := Lib.hid (kept_new (S := S4) h6 HT5.out.lt)
  have HK6 := Lib.hid (HK5.out.quiet hc6)
  have HT6 := Lib.hid (HT5.out.chg hc6 (fun _ _ h => h))
  have HC6 := Lib.hid (HC5.out.trans hc6 (fun _ _ h => h))
  have Hd := Lib.hid (delete_tree w6 tb S4 _ ⟨#[97]⟩ HT6.out (by simp))
  unfold ptr at Hd
  clear h6 hc6 HT5 HC5 HK5 Hs
  go_wp2_with fail
  refine Hd.out.mono ?_
  intro e w7 hp
  obtain ⟨rfl, S7, hT, hS, hc⟩ := del_bit hp ex_g4 ex_d1
  obtain ⟨hC2, hS2⟩ := new_step HC6.out HS4.out hc hS
  have HK7 := Lib.hid (HK6.out.step hc hS)
  have HL7 := Lib.hid (HL6.out.step hc hS)
  have HC7 := Lib.hid hC2
  have HS7 := Lib.hid hS2
  have Hd2 := Lib.hid (delete_tree w7 tb S7 _ ⟨#[97]⟩ hT (by simp))
  unfold ptr at Hd2
  clear hp hT hS hc hC2 hS2 Hd HS4 HC6 HK6 HL6 HT6
  go_wp2_with fail
  refine Hd2.out.mono ?_
  intro e w8 hp
  obtain ⟨rfl, S8, hT, hS, hc⟩ := del_bit hp ex_g5 ex_d2
  obtain ⟨hC2, hS2⟩ := new_step HC7.out HS7.out hc hS
  have HK8 := Lib.hid (HK7.out.step hc hS)
  have HL8 := Lib.hid (HL7.out.step hc hS)
  have HC8 := Lib.hid hC2
  have HT8 := Lib.hid hT
  have Hlen := Lib.hid (len_calls w8 tb S8 _ hT)
  unfold ptr at Hlen
  clear hp hT hS hc hC2 hS2 Hd2 HS7 HC7 HK7 HL7
  go_wp2_with fail
  refine Hlen.out.mono ?_
  rintro e w9 ⟨rfl, rfl⟩
  have Hget := Lib.hid (get_tree w8 tb S8 _ ⟨#[98]⟩ HT8.out)
  unfold ptr at Hget
  clear Hlen
  go_wp2_with fail
  refine Hget.out.mono ?_
  intro e w10 hp
  unfold GetPost at hp
  rw [show get ⟨#[98]⟩ [(sB, s3)] = some s3 from ex_g6] at hp
  obtain ⟨rfl, hc⟩ := hp
  have HK10 := Lib.hid (HK8.out.quiet hc)
  have HL10 := Lib.hid (HL8.out.quiet hc)
  have HC10 := Lib.hid (HC8.out.trans hc (fun _ _ h => h))
  have Hget2 := Lib.hid (get_tree w10 tb S8 _ ⟨#[97]⟩ (HT8.out.chg hc (fun _ _ h => h)))
  unfold ptr at Hget2
  clear hc HK8 HL8 HC8 HT8 Hget
  go_wp2_with fail
  refine Hget2.out.mono ?_
  intro e w11 hp
  unfold GetPost at hp
  rw [show get ⟨#[97]⟩ [(sB, s3)] = none from ex_g5] at hp
  obtain ⟨rfl, hc⟩ := hp
  have hK := HK10.out.quiet hc
  have hL := HL10.out.quiet hc
  have HC11 := Lib.hid (HC10.out.trans hc (fun _ _ h => h))
  obtain ⟨g5, c5, he5, -, -, hp5⟩ := row_form hK.1 (by decide)
  obtain ⟨g6, c6, he6, -, -, hp6⟩ := row_form hL.1 (by decide)
  subst he5
  subst he6
  have q0 : w11.cell? ⟨g5, 0, none⟩ = some (.string ⟨#[97]⟩) := hp5 0 _ rfl
  have q1 : w11.cell? ⟨g5, 1, none⟩ = some (.string ⟨#[50]⟩) := hp5 1 _ rfl
  have q2 : w11.cell? ⟨g5, 2, none⟩ = some (.string ⟨#[98]⟩) := hp5 2 _ rfl
  have q3 : w11.cell? ⟨g5, 3, none⟩ = some (.string ⟨#[51]⟩) := hp5 3 _ rfl
  have q4 : w11.cell? ⟨g6, 0, none⟩ = some (.string ⟨#[98]⟩) := hp6 0 _ rfl
  clear hc hK hL hp5 hp6 HK10 HL10 HC10 Hget2
  simp only [List.length_cons, List.length_nil, Nat.zero_add, Option.isSome, valueOf]
  unfold s3
  go_wp2
  go_ret
  exact ⟨rfl, HC11.out⟩

end Go.Proofs.Ytempbaflcbmcpaa
