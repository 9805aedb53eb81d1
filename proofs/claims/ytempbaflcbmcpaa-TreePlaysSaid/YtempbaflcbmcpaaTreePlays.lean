/- TreePlays: for every input the law returns true, and each argument reads behind the call as it read before. -/
import Derived.Test.YtempbaflcbmcpaaActs
import Derived.Test.YtempbaflcbmcpaaPlays
namespace Go.Proofs.Ytempbaflcbmcpaa
open Go.ChangeShapes Go.WideShapes Go.ChangeAt Go.RowKit Go.Deep

set_option maxRecDepth 100000 in
theorem treePlays_lifted (os : Os) (started : os.Started) (H : Type) (enc : TypeId × Value → H) :
    ReturnsInHanded {} Try.checked os 6 .any (Rows.treePlaysSpec.pre6 enc Try.prog Try.f6 Rows.treePlaysRow.domain false) (Rows.treePlaysSpec.post enc Try.prog Try.f6 false true false false) := by
  refine returnsInHanded_of_change_sized (C := Try.checked) Try.own started (by kernel_rfl) Try.func6
    (ChangeSpec.witness6 (enc := enc) (C := Try.checked) false ⟨#[], #[.slice none 0 0, .slice none 0 0], []⟩ 8 (by kernel_rfl) (by kernel_rfl) (by kernel_rfl) (by kernel_rfl)) ?_
  intro W base args ds gs before hval0 hW hcnd0 hsz0 _
  have hval : ∀ (j : Nat) t v, Try.f6.params[j]? = some t → args[j]? = some v → Value.okWide Try.prog W .any base t v := hval0
  have hsz : (DataW.weightsEach Try.prog (Try.f6.params.toList ++ Rows.treePlaysSpec.plain.varTypes Try.prog) (ds ++ gs)).all (· ≤ reachBytes) = true := hsz0
  have hW' := hW
  obtain ⟨p, q, hA0, hV, rfl, hfz, hnd⟩ := hW
  have hA : DataW.TrodAll enc Try.prog W 0 (fun _ => true) true Try.f6.params.toList args.toList ds p := hA0
  rw [Try.params6] at hA hval hsz
  obtain ⟨v0, v1, d0, d1, p0, p1, rfl, rfl, rfl, h0, h1⟩ := trodAll_two hA
  obtain ⟨rfl, rfl⟩ := trodVars_none hV
  clear hA0 hval0 hsz0
  simp only [List.append_nil] at hW'
  have hlt0 : ∀ x ∈ p0, x.block < W.heap.size := fun x hx => by simpa using hW'.lt x (by simp [hx])
  have hlt1 : ∀ x ∈ p1, x.block < W.heap.size := fun x hx => by simpa using hW'.lt x (by simp [hx])
  obtain ⟨l, hl, hd⟩ := open_pairs (hval 0 22 v0 rfl rfl) h0
  have hlen : l.length ≤ 4999999999000 := by
    rcases hd with ⟨-, rfl⟩ | ⟨es, rest, rfl, he⟩
    · simp
    · have := sized_slice hsz (j := 0) (t := 22) (e := 47) rfl rfl Try.underlying22
      rw [Try.bytes47] at this
      simp only [reachBytes] at this
      omega
  obtain ⟨acts, ha, hd1⟩ := open_acts (hval 1 33 v1 rfl rfl) h1
  have halen : acts.length ≤ 9000000000000 := by
    rcases hd1 with ⟨-, rfl⟩ | ⟨es, rest, rfl, he⟩
    · simp
    · have := sized_slice hsz (j := 1) (t := 33) (e := 39) rfl rfl Try.underlying33
      rw [Try.bytes39] at this
      simp only [reachBytes] at this
      omega
  refine (treePlays_calls W v0 v1 l acts hl ha hlen halen).mono fun e W' ⟨he, hc⟩ => ?_
  subst he
  have hb := hc.below (fun _ _ h => h)
  refine ⟨_, rfl, ?_⟩
  refine ⟨_, _, _, [], p0 ++ p1, [], hW', ?_, ?_, rfl, hb.frame _, fun h => by cases h⟩
  · exact trodAll_mk1 (shut_bool Try.underlying4 _)
  · exact trodAll_mk2 (Below.trod Try.laidOut (by kernel_rfl) (of_decide_eq_true (by kernel_rfl)) h0 hb hlt0) (Below.trod Try.laidOut (by kernel_rfl) (of_decide_eq_true (by kernel_rfl)) h1 hb hlt1)

theorem treePlays_holds : Rows.TreePlaysSaid :=
  OpenClaim.holds_of_wide 6 Try.f6 rfl rfl rfl rfl rfl rfl rfl ⟨rfl, rfl, rfl, rfl, rfl⟩ rfl rfl rfl rfl rfl (by kernel_rfl) Try.func6 (by kernel_rfl)
    (of_decide_eq_true (by kernel_rfl)) (by unfold Func.isWrapper; first | (rw [if_pos (by decide +kernel)]; kernel_rfl) | (rw [if_neg (by decide +kernel)]; exact ⟨rfl, rfl⟩))
    (fun os started H enc _ => treePlays_lifted os started H enc)
#print axioms treePlays_holds

end Go.Proofs.Ytempbaflcbmcpaa
