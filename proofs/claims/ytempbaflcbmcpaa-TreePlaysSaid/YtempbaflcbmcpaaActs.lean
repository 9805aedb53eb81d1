/- Arguments opened: slices of acts. -/
import Derived.Test.YtempbaflcbmcpaaOpen
import Derived.Test.YtempbaflcbmcpaaApart
import Derived.Deep.Slices
import Derived.Deep.Fields
namespace Go.Proofs.Ytempbaflcbmcpaa
open Go.ChangeShapes Go.WideShapes Go.ChangeAt Go.RowKit Go.Deep

theorem Try.bytes39 : Try.prog.bytesOf 39 = 48 := by kernel_rfl
theorem Try.cells39 : Try.prog.cellsOf 39 = 4 := by kernel_rfl

section
variable {H : Type} {enc : TypeId × Value → H} {W : World} {sp : Nat → Bool} {held : Bool}
/-- One field of an act. -/
theorem act_field {fs : Array Field} {a : Addr} {i fuel : Nat} {cs : List Value} {x : DataW H × List MemPlace} (hs : Try.prog.underlying 39 = some (.struct fs)) (hone : oneCellFields Try.prog fs = true) (hC : fs.size = 4)
    (hc : W.cells? 0 (a.add (i * 4)) 4 = some cs) (h : DataW.trod enc Try.prog W 0 sp held fuel 39 cs = some x) :
    ∀ (j : Nat) (f : Field), fs[j]? = some f → ∃ v y n, W.cell? (a.add (i * 4 + j)) = some v ∧ DataW.trod enc Try.prog W 0 sp held n f.type [v] = some y := by
  obtain ⟨ys, n, hn, hy, hlen, hyl, hf⟩ := DataW.trod_struct hs h
  obtain ⟨-, hcl, hat⟩ := World.cells?_some hc
  intro j f hj
  obtain ⟨ho, hk⟩ := hone_of hone j f hj
  have hjl : j < fs.size := (Array.getElem?_eq_some_iff.1 hj).1
  have h1 := hf j f hj
  rw [ho, hk, List.drop_eq_getElem_cons (by omega)] at h1
  have hys : ys[j]? = some (ys[j]'(by omega)) := List.getElem?_eq_getElem (by omega)
  refine ⟨cs[j]'(by omega), _, n, ?_, h1.trans hys⟩
  rw [← add_add, hat j (by omega), List.getElem?_eq_getElem]

/-- An argument that is a slice of acts. -/
theorem open_acts {r : Reach} {b : Nat} {v : Value} {d : DataW H} {p : List MemPlace} (hv : Value.okWide Try.prog W r b 33 v) (h : DataW.Trod enc Try.prog W 0 sp held 33 v d p) :
    ∃ l, ActsIn W v l ∧ (d = .nil ∧ l = [] ∨ ∃ es rest, d = .slice es rest ∧ es.length = l.length) := by
  obtain ⟨a0, len, cap, rfl⟩ := okWide_slice Try.underlying33 hv
  obtain ⟨fuel, hf⟩ := h
  rcases open_slice Try.underlying33 hf with ⟨hcs, hx⟩ | ⟨a, len', cap', m, n, D, Pl, hcs, hb, hl, hm, hmm, hx, hi⟩
  · simp [Value.cells] at hcs
    obtain ⟨rfl, rfl, rfl⟩ := hcs
    simp only [Prod.mk.injEq] at hx
    exact ⟨[], ⟨none, 0, rfl, fun i h => absurd h (Nat.not_lt_zero i)⟩, .inl ⟨hx.1, rfl⟩⟩
  · simp [Value.cells] at hcs
    obtain ⟨rfl, rfl, rfl⟩ := hcs
    simp only [Prod.mk.injEq] at hx
    have hlm : len ≤ m := by rw [hmm]; split <;> omega
    obtain ⟨l, hl2, hq⟩ := exists_list (Q := fun i (x : ActV) => W.cell? (a.add (i * 4)) = some (.int .i64 x.d) ∧ W.cell? (a.add (i * 4 + 1)) = some (.string x.k) ∧ W.cell? (a.add (i * 4 + 2)) = some (.string x.v) ∧ W.cell? (a.add (i * 4 + 3)) = some (.int .i64 x.m)) len (fun i hil => by
      obtain ⟨cs, hc, ht⟩ := hi i (by omega)
      rw [Try.cells39] at hc
      have hF := act_field (i := i) Try.underlying39 (by kernel_rfl) rfl hc ht
      obtain ⟨v0, y0, n0, c0, t0⟩ := hF 0 _ rfl
      obtain ⟨v1, y1, n1, c1, t1⟩ := hF 1 _ rfl
      obtain ⟨v2, y2, n2, c2, t2⟩ := hF 2 _ rfl
      obtain ⟨v3, y3, n3, c3, t3⟩ := hF 3 _ rfl
      obtain ⟨s0, h0, -, -⟩ := DataW.trod_int Try.underlying3 t0
      obtain ⟨s1, h1, -, -⟩ := DataW.trod_string Try.underlying9 t1
      obtain ⟨s2, h2, -, -⟩ := DataW.trod_string Try.underlying9 t2
      obtain ⟨s3, h3, -, -⟩ := DataW.trod_int Try.underlying3 t3
      simp only [List.cons.injEq, and_true] at h0 h1 h2 h3
      rw [h0] at c0
      rw [h1] at c1
      rw [h2] at c2
      rw [h3] at c3
      exact ⟨⟨s0, s1, s2, s3⟩, c0, c1, c2, c3⟩)
    subst hl2
    exact ⟨l, ⟨some a, cap, rfl, fun i h => ⟨a, rfl, hq i h⟩⟩, .inr ⟨_, _, hx.1, by simp⟩⟩
end

end Go.Proofs.Ytempbaflcbmcpaa
