/- quartotop.TopVersions: the row, proved: whatever the input, true, and the input reads as it did. No condition. -/
import Derived.Test.YtclmjnobacepjaaGreatJ44
namespace Go.Proofs.YtclmjnobacepjaaGreat
open Go.RowKit Go.WideShapes Go.ChangeShapes Go.ChangeAt Go.ChangeMaps Go.Deep

theorem lawTopVersions_any (s : List UInt8) (v : Value) (l : List Ed) (w : World) (hl : Sl edE w v l) :
    Calls Tryz.prog 3 #[.string ⟨s.toArray⟩, v] w fun e w' => e = .returned (.bool true) ∧ Below w.heap.size w w' := by
  obtain ⟨A, cap, rfl, h⟩ := id hl
  exact top_any s A cap l w hl

set_option maxRecDepth 100000 in
theorem topVersions_lifted (os : Os) (started : os.Started) (H : Type) (enc : TypeId × Value → H) :
    ReturnsInHanded {} Tryz.checked os 3 .any (Rows.topVersionsSpec.pre6 enc Tryz.prog Tryz.f3 Rows.topVersionsRow.domain false) (Rows.topVersionsSpec.post enc Tryz.prog Tryz.f3 false true false false) := by
  refine returnsInHanded_of_change_sized (C := Tryz.checked) ownNone started (by kernel_rfl) Tryz.func3
    (ChangeSpec.witness6 (enc := enc) (C := Tryz.checked) false ⟨#[], #[.string ⟨#[]⟩, .slice none 0 0], []⟩ 8 (by kernel_rfl) (by kernel_rfl) (by kernel_rfl) (by kernel_rfl)) ?_
  intro W base args ds gs before hval0 hW _ _ _
  have hval : ∀ (j : Nat) t v, Tryz.f3.params[j]? = some t → args[j]? = some v → Value.okWide Tryz.prog W .any base t v := hval0
  have hW' := hW
  obtain ⟨p, q, hA0, hV, rfl, -, -⟩ := hW
  have hA : DataW.TrodAll enc Tryz.prog W 0 (fun _ => true) true Tryz.f3.params.toList args.toList ds p := hA0
  rw [Tryz.params3] at hA hval
  obtain ⟨v0, vs0, d0, ds0, p0, q0, hargs, rfl, rfl, h0, r0⟩ := trodAll_cons hA
  obtain ⟨v1, vs1, d1, ds1, p1, q1, rfl, rfl, rfl, h1, r1⟩ := trodAll_cons r0
  obtain ⟨rfl, rfl, rfl⟩ := trodAll_nil r1
  obtain rfl : args = #[v0, v1] := by cases args; simp_all
  obtain ⟨rfl, rfl⟩ := trodVars_none hV
  clear hA0 hval0 hA
  simp only [List.append_nil] at hW'
  obtain ⟨s0, rfl, rfl, rfl, ws0⟩ := open_string Tryz.underlying9 (hval 0 9 v0 rfl rfl) h0
  simp only [List.nil_append] at hW'
  have hlt1 : ∀ x ∈ p1, x.block < W.heap.size := fun x hx => hW'.lt x (by first | exact hx | simp [hx])
  obtain ⟨l1, hl1⟩ := open_edits (fun _ => rfl) (hval 1 22 v1 rfl rfl) h1
  have hc := lawTopVersions_any s0.data.toList v1 l1 W hl1
  simp only [str_list] at hc
  refine hc.mono fun e W' ⟨he, hb⟩ => ?_
  subst he
  refine ⟨_, rfl, post_true rfl hW' rfl rfl rfl rfl (fun sp hsp => ?_) hb⟩
  rw [Tryz.params3]
  have := trodAll_cons_mk (enc := enc) (w := W') (base := 0) (spare := sp) (held := true) (shut_string Tryz.underlying9 ws0) (trodAll_cons_mk (trod_kept (sp := sp) (by kernel_rfl) (of_decide_eq_true (by kernel_rfl)) h1 hb hlt1 (fun x hx => hsp x (by first | exact hx | simp [hx]))) trodAll_mk0)
  simpa only [List.append_nil, List.nil_append] using this

set_option maxHeartbeats 40000000 in
theorem topVersions_over : Rows.topVersionsRow.holds Tryz.pinned (OpenSpec.ofChange Rows.topVersionsSpec) :=
  OpenClaim.holds_of_wide 3 Tryz.f3 rfl rfl rfl rfl rfl rfl rfl ⟨rfl, rfl, rfl, rfl, rfl⟩ rfl rfl rfl rfl rfl (by as_aux_lemma => kernel_rfl) Tryz.func3
    (by
      unfold joinedFacts
      repeat' (with_reducible refine Bool.and_eq_true_iff.2 ⟨?_, ?_⟩)
      all_goals (as_aux_lemma => kernel_rfl))
    (of_decide_eq_true (by as_aux_lemma => kernel_rfl)) (by unfold Func.isWrapper; first | (rw [if_pos (by decide +kernel)]; kernel_rfl) | (rw [if_neg (by decide +kernel)]; exact ⟨rfl, rfl⟩))
    (fun os started H enc _ => topVersions_lifted os started H enc)

theorem topVersions_proved : Rows.TopVersionsSaid := topVersions_over

end Go.Proofs.YtclmjnobacepjaaGreat
