/- quartolaw04.ApplyInserted: the row, proved. -/
import Derived.Test.YtpbnciioeiohlaaOpen
import Derived.Test.YtpbnciioeiohlaaLawDoes
namespace Go.Proofs.Ytpbnciioeiohlaa
open Go.RowKit Go.WideShapes Go.ChangeShapes Go.ChangeAt Go.ChangeMaps Go.Deep

set_option maxRecDepth 100000 in
theorem inserted_lifted (os : Os) (started : os.Started) (H : Type) (enc : TypeId × Value → H) :
    ReturnsInHanded {} Try.checked os 4 .any (Rows.applyInsertedSpec.pre6 enc Try.prog Try.f4 Rows.applyInsertedRow.domain false) (Rows.applyInsertedSpec.post enc Try.prog Try.f4 false true false false) := by
  refine returnsInHanded_of_change_sized (C := Try.checked) ownNone started (by kernel_rfl) Try.func4
    (ChangeSpec.witness6 (enc := enc) (C := Try.checked) false ⟨#[], #[.slice none 0 0], []⟩ 8 (by kernel_rfl) (by kernel_rfl) (by kernel_rfl) (by kernel_rfl)) ?_
  intro W base args ds gs before hval0 hW _ hsz0 _
  have hsz : (DataW.weightsEach Try.prog (Try.f4.params.toList ++ Rows.applyInsertedSpec.plain.varTypes Try.prog) (ds ++ gs)).all (· ≤ reachBytes) = true := hsz0
  clear hsz0
  have hval : ∀ (j : Nat) t v, Try.f4.params[j]? = some t → args[j]? = some v → Value.okWide Try.prog W .any base t v := hval0
  have hW' := hW
  obtain ⟨p, q, hA0, hV, rfl, -, -⟩ := hW
  have hA : DataW.TrodAll enc Try.prog W 0 (fun _ => true) true Try.f4.params.toList args.toList ds p := hA0
  rw [Try.params4] at hA hval hsz
  obtain ⟨v0, vs0, d0, ds0, p0, q0, hargs, rfl, rfl, h0, r0⟩ := trodAll_cons hA
  obtain ⟨rfl, rfl, rfl⟩ := trodAll_nil r0
  obtain rfl : args = #[v0] := by cases args; simp_all
  obtain ⟨rfl, rfl⟩ := trodVars_none hV
  clear hA0 hval0
  simp only [List.append_nil] at hW' hsz
  have hlt : ∀ x ∈ p0, x.block < W.heap.size := fun x hx => by simpa using hW'.lt x hx
  obtain ⟨l, hl, hwf, hd⟩ := open_pieces (fun _ => rfl) (hval 0 22 v0 rfl rfl) h0
  have hlen : l.length * 32 ≤ 140737488355328 := by
    rcases hd with ⟨rfl, rfl⟩ | ⟨el, sp, rfl, e⟩
    · simp
    · have := sized_slice hsz (j := 0) (t := 22) (e := 38) rfl rfl Try.underlying22
      rw [bytesPiece, Nat.add_mul, e] at this
      unfold reachBytes at this
      omega
  refine (lawInserted_any v0 l W hl hwf hlen).mono fun e W' ⟨he, hb⟩ => ?_
  subst he
  refine ⟨_, rfl, post_true rfl hW' rfl rfl rfl rfl (fun sp hsp => ?_) hb⟩
  rw [Try.params4]
  have := trodAll_cons_mk (trod_kept (sp := sp) (by kernel_rfl) (of_decide_eq_true (by kernel_rfl)) h0 hb hlt (fun x hx => hsp x hx)) trodAll_mk0
  rwa [List.append_nil] at this

theorem inserted_over : Rows.applyInsertedRow.holds Try.pinned (OpenSpec.ofChange Rows.applyInsertedSpec) :=
  OpenClaim.holds_of_wide 4 Try.f4 rfl rfl rfl rfl rfl rfl rfl ⟨rfl, rfl, rfl, rfl, rfl⟩ rfl rfl rfl rfl rfl (by kernel_rfl) Try.func4 (by kernel_rfl)
    (of_decide_eq_true (by kernel_rfl)) (by unfold Func.isWrapper; first | (rw [if_pos (by decide +kernel)]; kernel_rfl) | (rw [if_neg (by decide +kernel)]; exact ⟨rfl, rfl⟩))
    (fun os started H enc _ => inserted_lifted os started H enc)

theorem applyInserted_proved : Rows.ApplyInsertedSaid := inserted_over

end Go.Proofs.Ytpbnciioeiohlaa
