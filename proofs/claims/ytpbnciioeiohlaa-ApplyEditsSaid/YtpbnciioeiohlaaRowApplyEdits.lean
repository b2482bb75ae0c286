/- quartolaw04.ApplyEdits: the row, proved: whatever the input, true, and the input reads as it did. No condition. -/
import Derived.Test.YtpbnciioeiohlaaOpen
import Derived.Test.YtpbnciioeiohlaaLawEdits
namespace Go.Proofs.Ytpbnciioeiohlaa
open Go.RowKit Go.WideShapes Go.ChangeShapes Go.ChangeAt Go.ChangeMaps Go.Deep

set_option maxRecDepth 100000 in
theorem applyEdits_lifted (os : Os) (started : os.Started) (H : Type) (enc : TypeId × Value → H) :
    ReturnsInHanded {} Try.checked os 8 .any (Rows.applyEditsSpec.pre6 enc Try.prog Try.f8 Rows.applyEditsRow.domain false) (Rows.applyEditsSpec.post enc Try.prog Try.f8 false true false false) := by
  refine returnsInHanded_of_change_sized (C := Try.checked) ownNone started (by kernel_rfl) Try.func8
    (ChangeSpec.witness6 (enc := enc) (C := Try.checked) false ⟨#[], #[.string ⟨#[]⟩, .int .i64 0, .int .i64 0, .string ⟨#[]⟩], []⟩ 8 (by kernel_rfl) (by kernel_rfl) (by kernel_rfl) (by kernel_rfl)) ?_
  intro W base args ds gs before hval0 hW _ hsz0 _
  have hsz : (DataW.weightsEach Try.prog (Try.f8.params.toList ++ Rows.applyEditsSpec.plain.varTypes Try.prog) (ds ++ gs)).all (· ≤ reachBytes) = true := hsz0
  clear hsz0
  have hval : ∀ (j : Nat) t v, Try.f8.params[j]? = some t → args[j]? = some v → Value.okWide Try.prog W .any base t v := hval0
  have hW' := hW
  obtain ⟨p, q, hA0, hV, rfl, -, -⟩ := hW
  have hA : DataW.TrodAll enc Try.prog W 0 (fun _ => true) true Try.f8.params.toList args.toList ds p := hA0
  rw [Try.params8] at hA hval hsz
  obtain ⟨v0, vs0, d0, ds0, p0, q0, hargs, rfl, rfl, h0, r0⟩ := trodAll_cons hA
  obtain ⟨v1, vs1, d1, ds1, p1, q1, rfl, rfl, rfl, h1, r1⟩ := trodAll_cons r0
  obtain ⟨v2, vs2, d2, ds2, p2, q2, rfl, rfl, rfl, h2, r2⟩ := trodAll_cons r1
  obtain ⟨v3, vs3, d3, ds3, p3, q3, rfl, rfl, rfl, h3, r3⟩ := trodAll_cons r2
  obtain ⟨rfl, rfl, rfl⟩ := trodAll_nil r3
  obtain rfl : args = #[v0, v1, v2, v3] := by cases args; simp_all
  obtain ⟨rfl, rfl⟩ := trodVars_none hV
  clear hA0 hval0 hA
  simp only [List.append_nil] at hW' hsz
  obtain ⟨s0, rfl, rfl, rfl, ws0⟩ := open_string Try.underlying9 (hval 0 9 v0 rfl rfl) h0
  obtain ⟨n1, rfl, rfl, rfl, wn1⟩ := open_int Try.underlying3 (hval 1 3 v1 rfl rfl) h1
  obtain ⟨n2, rfl, rfl, rfl, wn2⟩ := open_int Try.underlying3 (hval 2 3 v2 rfl rfl) h2
  obtain ⟨s3, rfl, rfl, rfl, ws3⟩ := open_string Try.underlying9 (hval 3 9 v3 rfl rfl) h3
  simp only [List.nil_append] at hW'
  have hs0 : s0.data.toList.length ≤ 140737488351232 := by have := sized_string hsz (j := 0) (t := 9) rfl rfl; unfold reachBytes at this; omega
  have hs3 : s3.data.toList.length ≤ 140737488351232 := by have := sized_string hsz (j := 3) (t := 9) rfl rfl; unfold reachBytes at this; omega
  have hc := lawApplyEdits_any s0.data.toList n1 n2 s3.data.toList W hs0 (wf_i64 wn1).1 (wf_i64 wn1).2 (wf_i64 wn2).1 (wf_i64 wn2).2 hs3
  simp only [str_list] at hc
  refine hc.mono fun e W' ⟨he, hb⟩ => ?_
  subst he
  refine ⟨_, rfl, post_true rfl hW' rfl rfl rfl rfl (fun sp _ => ?_) hb⟩
  rw [Try.params8]
  have := trodAll_cons_mk (enc := enc) (w := W') (base := 0) (spare := sp) (held := true) (shut_string Try.underlying9 ws0) (trodAll_cons_mk (shut_int Try.underlying3 wn1) (trodAll_cons_mk (shut_int Try.underlying3 wn2) (trodAll_cons_mk (shut_string Try.underlying9 ws3) trodAll_mk0)))
  simpa only [List.nil_append] using this

theorem applyEdits_over : Rows.applyEditsRow.holds Try.pinned (OpenSpec.ofChange Rows.applyEditsSpec) :=
  OpenClaim.holds_of_wide 8 Try.f8 rfl rfl rfl rfl rfl rfl rfl ⟨rfl, rfl, rfl, rfl, rfl⟩ rfl rfl rfl rfl rfl (by kernel_rfl) Try.func8 (by kernel_rfl)
    (of_decide_eq_true (by kernel_rfl)) (by unfold Func.isWrapper; first | (rw [if_pos (by decide +kernel)]; kernel_rfl) | (rw [if_neg (by decide +kernel)]; exact ⟨rfl, rfl⟩))
    (fun os started H enc _ => applyEdits_lifted os started H enc)

theorem applyEdits_proved : Rows.ApplyEditsSaid := applyEdits_over

end Go.Proofs.Ytpbnciioeiohlaa
