/- quartolaw09.MarkKeeps: the row, proved: whatever the input, true, and the input reads as it did. No condition. -/
import Derived.Test.YtibmnkdeepmabaaOpenM
import Derived.Test.YtibmnkdeepmabaaLaw9Keeps
namespace Go.Proofs.Ytibmnkdeepmabaa
open Go.RowKit Go.WideShapes Go.ChangeShapes Go.ChangeAt Go.ChangeMaps Go.Deep

set_option maxRecDepth 100000 in
theorem markKeeps_lifted (os : Os) (started : os.Started) (H : Type) (enc : TypeId × Value → H) :
    ReturnsInHanded {} Try.checked os 7 .any (Rows.markKeepsSpec.pre6 enc Try.prog Try.f7 Rows.markKeepsRow.domain false) (Rows.markKeepsSpec.post enc Try.prog Try.f7 false true false false) := by
  refine returnsInHanded_of_change_sized (C := Try.checked) ownNone started (by kernel_rfl) Try.func7
    (ChangeSpec.witness6 (enc := enc) (C := Try.checked) false ⟨#[], #[.slice none 0 0, .agg #[.int .u32 0, .int .i64 0, .int .u8 0], .agg #[.int .u32 0, .int .i64 0, .int .u8 0]], []⟩ 8 (by kernel_rfl) (by kernel_rfl) (by kernel_rfl) (by kernel_rfl)) ?_
  intro W base args ds gs before hval0 hW _ hsz0 _
  have hsz : (DataW.weightsEach Try.prog (Try.f7.params.toList ++ Rows.markKeepsSpec.plain.varTypes Try.prog) (ds ++ gs)).all (· ≤ reachBytes) = true := hsz0
  clear hsz0
  have hval : ∀ (j : Nat) t v, Try.f7.params[j]? = some t → args[j]? = some v → Value.okWide Try.prog W .any base t v := hval0
  have hW' := hW
  obtain ⟨p, q, hA0, hV, rfl, -, -⟩ := hW
  have hA : DataW.TrodAll enc Try.prog W 0 (fun _ => true) true Try.f7.params.toList args.toList ds p := hA0
  rw [Try.params7] at hA hval hsz
  obtain ⟨v0, vs0, d0, ds0, p0, q0, hargs, rfl, rfl, h0, r0⟩ := trodAll_cons hA
  obtain ⟨v1, vs1, d1, ds1, p1, q1, rfl, rfl, rfl, h1, r1⟩ := trodAll_cons r0
  obtain ⟨v2, vs2, d2, ds2, p2, q2, rfl, rfl, rfl, h2, r2⟩ := trodAll_cons r1
  obtain ⟨rfl, rfl, rfl⟩ := trodAll_nil r2
  obtain rfl : args = #[v0, v1, v2] := by cases args; simp_all
  obtain ⟨rfl, rfl⟩ := trodVars_none hV
  clear hA0 hval0 hA
  simp only [List.append_nil] at hW' hsz
  have hlt0 : ∀ x ∈ p0, x.block < W.heap.size := fun x hx => hW'.lt x (by first | exact hx | exact List.mem_append_left _ hx | exact List.mem_append_right _ hx | simp [hx])
  obtain ⟨l0, hl0, hwf0, hd0⟩ := open_marks (fun _ => rfl) (hval 0 22 v0 rfl rfl) h0
  have hlen0 : l0.length * 24 ≤ 140737488355328 := by
    rcases hd0 with ⟨-, rfl⟩ | ⟨el, sp, e, e'⟩
    · simp
    · have := sized_slice hsz (j := 0) (t := 22) (e := 32) rfl (by rw [e]; rfl) Try.underlying22
      rw [bytesMark, Nat.add_mul, e'] at this
      unfold reachBytes at this
      omega
  have hlt1 : ∀ x ∈ p1, x.block < W.heap.size := fun x hx => hW'.lt x (by first | exact hx | exact List.mem_append_left _ hx | exact List.mem_append_right _ hx | simp [hx])
  obtain ⟨m1, rfl, hwf1⟩ := open_markV (hval 1 32 v1 rfl rfl) h1
  have hlt2 : ∀ x ∈ p2, x.block < W.heap.size := fun x hx => hW'.lt x (by first | exact hx | exact List.mem_append_left _ hx | exact List.mem_append_right _ hx | simp [hx])
  obtain ⟨m2, rfl, hwf2⟩ := open_markV (hval 2 32 v2 rfl rfl) h2
  have hc := lawMarkKeeps_any v0 l0 m1 m2 W hl0 hwf0 hlen0 hwf1 hwf2
  refine hc.mono fun e W' ⟨he, hb⟩ => ?_
  subst he
  refine ⟨_, rfl, post_true rfl hW' rfl rfl rfl rfl (fun sp hsp => ?_) hb⟩
  rw [Try.params7]
  have := trodAll_cons_mk (enc := enc) (w := W') (base := 0) (spare := sp) (held := true) (trod_kept (sp := sp) (by kernel_rfl) (of_decide_eq_true (by kernel_rfl)) h0 hb hlt0 (fun x hx => hsp x (by first | exact hx | exact List.mem_append_left _ hx | exact List.mem_append_right _ hx | simp [hx]))) (trodAll_cons_mk (trod_kept (sp := sp) (by kernel_rfl) (of_decide_eq_true (by kernel_rfl)) h1 hb hlt1 (fun x hx => hsp x (by first | exact hx | exact List.mem_append_left _ hx | exact List.mem_append_right _ hx | simp [hx]))) (trodAll_cons_mk (trod_kept (sp := sp) (by kernel_rfl) (of_decide_eq_true (by kernel_rfl)) h2 hb hlt2 (fun x hx => hsp x (by first | exact hx | exact List.mem_append_left _ hx | exact List.mem_append_right _ hx | simp [hx]))) trodAll_mk0))
  simpa only [List.append_nil] using this

set_option maxHeartbeats 40000000 in
theorem markKeeps_over : Rows.markKeepsRow.holds Try.pinned (OpenSpec.ofChange Rows.markKeepsSpec) :=
  OpenClaim.holds_of_wide 7 Try.f7 rfl rfl rfl rfl rfl rfl rfl ⟨rfl, rfl, rfl, rfl, rfl⟩ rfl rfl rfl rfl rfl (by as_aux_lemma => kernel_rfl) Try.func7
    (by
      unfold joinedFacts
      repeat' (with_reducible refine Bool.and_eq_true_iff.2 ⟨?_, ?_⟩)
      all_goals (as_aux_lemma => kernel_rfl))
    (of_decide_eq_true (by as_aux_lemma => kernel_rfl)) (by unfold Func.isWrapper; first | (rw [if_pos (by decide +kernel)]; kernel_rfl) | (rw [if_neg (by decide +kernel)]; exact ⟨rfl, rfl⟩))
    (fun os started H enc _ => markKeeps_lifted os started H enc)

theorem markKeeps_proved : Rows.MarkKeepsSaid := markKeeps_over

end Go.Proofs.Ytibmnkdeepmabaa
