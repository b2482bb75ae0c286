/- quartolaw09.MarkReturns: the row, proved: whatever the input, true, and the input reads as it did. No condition. -/
import Derived.Test.YtibmnkdeepmabaaOpenM
import Derived.Test.YtibmnkdeepmabaaLaw9Returns
namespace Go.Proofs.Ytibmnkdeepmabaa
open Go.RowKit Go.WideShapes Go.ChangeShapes Go.ChangeAt Go.ChangeMaps Go.Deep

set_option maxRecDepth 100000 in
theorem markReturns_lifted (os : Os) (started : os.Started) (H : Type) (enc : TypeId × Value → H) :
    ReturnsInHanded {} Try.checked os 9 .any (Rows.markReturnsSpec.pre6 enc Try.prog Try.f9 Rows.markReturnsRow.domain false) (Rows.markReturnsSpec.post enc Try.prog Try.f9 false true false false) := by
  refine returnsInHanded_of_change_sized (C := Try.checked) ownNone started (by kernel_rfl) Try.func9
    (ChangeSpec.witness6 (enc := enc) (C := Try.checked) false ⟨#[], #[.string ⟨#[]⟩, .slice none 0 0, .slice none 0 0], []⟩ 8 (by kernel_rfl) (by kernel_rfl) (by kernel_rfl) (by kernel_rfl)) ?_
  intro W base args ds gs before hval0 hW _ hsz0 _
  have hsz : (DataW.weightsEach Try.prog (Try.f9.params.toList ++ Rows.markReturnsSpec.plain.varTypes Try.prog) (ds ++ gs)).all (· ≤ reachBytes) = true := hsz0
  clear hsz0
  have hval : ∀ (j : Nat) t v, Try.f9.params[j]? = some t → args[j]? = some v → Value.okWide Try.prog W .any base t v := hval0
  have hW' := hW
  obtain ⟨p, q, hA0, hV, rfl, -, -⟩ := hW
  have hA : DataW.TrodAll enc Try.prog W 0 (fun _ => true) true Try.f9.params.toList args.toList ds p := hA0
  rw [Try.params9] at hA hval hsz
  obtain ⟨v0, vs0, d0, ds0, p0, q0, hargs, rfl, rfl, h0, r0⟩ := trodAll_cons hA
  obtain ⟨v1, vs1, d1, ds1, p1, q1, rfl, rfl, rfl, h1, r1⟩ := trodAll_cons r0
  obtain ⟨v2, vs2, d2, ds2, p2, q2, rfl, rfl, rfl, h2, r2⟩ := trodAll_cons r1
  obtain ⟨rfl, rfl, rfl⟩ := trodAll_nil r2
  obtain rfl : args = #[v0, v1, v2] := by cases args; simp_all
  obtain ⟨rfl, rfl⟩ := trodVars_none hV
  clear hA0 hval0 hA
  simp only [List.append_nil] at hW' hsz
  obtain ⟨s0, rfl, rfl, rfl, ws0⟩ := open_string Try.underlying9 (hval 0 9 v0 rfl rfl) h0
  simp only [List.nil_append] at hW'
  have hlt1 : ∀ x ∈ p1, x.block < W.heap.size := fun x hx => hW'.lt x (by first | exact hx | exact List.mem_append_left _ hx | exact List.mem_append_right _ hx | simp [hx])
  obtain ⟨l1, hl1, hwf1, hd1⟩ := open_marks (fun _ => rfl) (hval 1 22 v1 rfl rfl) h1
  have hlen1 : l1.length * 24 ≤ 140737488355328 := by
    rcases hd1 with ⟨-, rfl⟩ | ⟨el, sp, e, e'⟩
    · simp
    · have := sized_slice hsz (j := 1) (t := 22) (e := 32) rfl (by rw [e]; rfl) Try.underlying22
      rw [bytesMark, Nat.add_mul, e'] at this
      unfold reachBytes at this
      omega
  have hlt2 : ∀ x ∈ p2, x.block < W.heap.size := fun x hx => hW'.lt x (by first | exact hx | exact List.mem_append_left _ hx | exact List.mem_append_right _ hx | simp [hx])
  obtain ⟨l2, hl2, hwf2, hd2⟩ := open_pieces (fun _ => rfl) (hval 2 39 v2 rfl rfl) h2
  have hlen2 : l2.length * 32 ≤ 140737488355328 := by
    rcases hd2 with ⟨-, rfl⟩ | ⟨el, sp, e, e'⟩
    · simp
    · have := sized_slice hsz (j := 2) (t := 39) (e := 53) rfl (by rw [e]; rfl) Try.underlying39
      rw [bytesPiece, Nat.add_mul, e'] at this
      unfold reachBytes at this
      omega
  have hs0 : s0.data.toList.length ≤ 140737488351232 := by have := sized_string hsz (j := 0) (t := 9) rfl rfl; unfold reachBytes at this; omega
  have hc := lawMarkReturns_any s0.data.toList v1 l1 v2 l2 W hs0 hl1 hwf1 hlen1 hl2 hwf2 hlen2
  simp only [str_list] at hc
  refine hc.mono fun e W' ⟨he, hb⟩ => ?_
  subst he
  refine ⟨_, rfl, post_true rfl hW' rfl rfl rfl rfl (fun sp hsp => ?_) hb⟩
  rw [Try.params9]
  have := trodAll_cons_mk (enc := enc) (w := W') (base := 0) (spare := sp) (held := true) (shut_string Try.underlying9 ws0) (trodAll_cons_mk (trod_kept (sp := sp) (by kernel_rfl) (of_decide_eq_true (by kernel_rfl)) h1 hb hlt1 (fun x hx => hsp x (by first | exact hx | exact List.mem_append_left _ hx | exact List.mem_append_right _ hx | simp [hx]))) (trodAll_cons_mk (trod_kept (sp := sp) (by kernel_rfl) (of_decide_eq_true (by kernel_rfl)) h2 hb hlt2 (fun x hx => hsp x (by first | exact hx | exact List.mem_append_left _ hx | exact List.mem_append_right _ hx | simp [hx]))) trodAll_mk0))
  simpa only [List.append_nil, List.nil_append] using this

set_option maxHeartbeats 40000000 in
theorem markReturns_over : Rows.markReturnsRow.holds Try.pinned (OpenSpec.ofChange Rows.markReturnsSpec) :=
  OpenClaim.holds_of_wide 9 Try.f9 rfl rfl rfl rfl rfl rfl rfl ⟨rfl, rfl, rfl, rfl, rfl⟩ rfl rfl rfl rfl rfl (by as_aux_lemma => kernel_rfl) Try.func9
    (by
      unfold joinedFacts
      repeat' (with_reducible refine Bool.and_eq_true_iff.2 ⟨?_, ?_⟩)
      all_goals (as_aux_lemma => kernel_rfl))
    (of_decide_eq_true (by as_aux_lemma => kernel_rfl)) (by unfold Func.isWrapper; first | (rw [if_pos (by decide +kernel)]; kernel_rfl) | (rw [if_neg (by decide +kernel)]; exact ⟨rfl, rfl⟩))
    (fun os started H enc _ => markReturns_lifted os started H enc)

theorem markReturns_proved : Rows.MarkReturnsSaid := markReturns_over

end Go.Proofs.Ytibmnkdeepmabaa
