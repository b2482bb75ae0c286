/- Plain: what an inverse keeps. No program. No condition. -/
import Derived.Test.YtibmnkdeepmabaaPlainK
namespace Go.Proofs.Ytibmnkdeepmabaa

theorem inv_runs {l : List Pc} (hl : Val l) : ∀ (s : List UInt8) (a o : Int), inL l ≤ s.length → runsS a o (invGo s l) = (runsS o a l).map turnR := by
  induction l with
  | nil => intro s a o _; rfl
  | cons p l ih =>
    intro s a o h
    obtain ⟨v1, v2⟩ := Val.cons.1 hl
    have hn := Val.n v1
    have hi := Val.inL v2
    simp only [inL] at h
    have ih' := fun a o => ih v2 (s.drop p.n.toNat) a o (by rw [List.length_drop]; omega)
    have hlen : (s.take p.n.toNat).length = p.n.toNat := by rw [List.length_take]; omega
    simp only [invGo, runsS]
    rcases Pc.valid_cases v1 with ⟨x, y, z⟩ | ⟨x, y, z⟩ | ⟨x, y, z⟩
    · have eq : invP (s.take p.n.toNat) p = p := by simp [invP, x]
      rw [eq, if_pos x, if_pos x, ih']
      rfl
    · have eq : invP (s.take p.n.toNat) p = ⟨2, 0, s.take p.n.toNat⟩ := by simp [invP, x]
      rw [eq, if_neg (show ¬ ((2 : Int) = 1) by omega), if_neg (show ¬ ((2 : Int) = 3) by omega), if_neg (show ¬ p.k = 1 by omega), if_pos x, ih', hlen, Int.toNat_of_nonneg hn]
    · have eq : invP (s.take p.n.toNat) p = ⟨3, p.t.length, []⟩ := by simp [invP, x]
      rw [eq, if_neg (show ¬ ((3 : Int) = 1) by omega), if_pos rfl, if_neg (show ¬ p.k = 1 by omega), if_neg (show ¬ p.k = 3 by omega), ih']
theorem KT.inv {s : List UInt8} {l : List Pc} (h : fitE s l = 0) {i j : Int} : KT false (inverseS s l) i j ↔ KT true l i j := by
  obtain ⟨h1, h2, h3⟩ := fit_ok h
  obtain ⟨v1, v2, v3⟩ := inv_ok h2 s (by omega)
  rw [inverseS, if_pos h, KT.form v1]
  unfold KT runsT
  rw [if_neg (by decide), if_pos rfl, inv_runs h2 s 0 0 (by omega)]
theorem inv_io {s : List UInt8} {l : List Pc} (h : fitE s l = 0) : Val (inverseS s l) ∧ inL (inverseS s l) = outL l ∧ outL (inverseS s l) = inL l := by
  obtain ⟨h1, h2, h3⟩ := fit_ok h
  obtain ⟨v1, v2, v3⟩ := inv_ok h2 s (by omega)
  rw [inverseS, if_pos h]
  exact ⟨(formS_ok v1).1, by rw [(formS_ok v1).2.2, v2], by rw [outL_formS v1, v3]⟩

end Go.Proofs.Ytibmnkdeepmabaa
