/- quartolaw06.both: what it returns. Condition: the pieces and the number read as values of their types. -/
import Derived.Test.YtdlbjfgpfjcpaaaPlainK
import Derived.Test.YtdlbjfgpfjcpaaaKnown6
namespace Go.Proofs.Ytdlbjfgpfjcpaaa
open Go.RowKit

theorem movE_ok {x g n : Int} (h : ¬ (x < 0 ∨ n < x)) (hg : g = 0 ∨ g = 1) : movE x g n = 0 := by
  unfold movE
  rw [if_neg (by omega), if_neg h]
theorem movV_ok {t : Bool} {l : List Pc} {x g n m : Int} (h : ¬ (x < 0 ∨ n < x)) (hg : g = 0 ∨ g = 1) : movV t l x g n m = if g = 0 then leftP x 0 (runsT t l) else rightP x m (runsT t l) := by
  unfold movV
  rw [if_pos (movE_ok h hg)]
def bothOk (l : List Pc) (x : Int) : Bool := decide (posE l x 0 = 0)
theorem posE_01 (l : List Pc) (x : Int) : posE l x 1 = posE l x 0 := by
  unfold posE movE
  simp
set_option maxHeartbeats 2000000 in
set_option maxRecDepth 100000 in
theorem both_any (v : Value) (l : List Pc) (x : Int) (w : World) (h : Sl pcE w v l) (hd : ∀ p, p ∈ l → p.wf) (hl : l.length * 32 ≤ 140737488355328) :
    Calls Try.prog 44 #[v, .int .i64 x] w fun e w' => e = .returned (.tuple #[.int .i64 (posV l x 0), .int .i64 (posV l x 1), .bool (bothOk l x)]) ∧ Below w.heap.size w w' := by
  have cOwn := Lib.hid fun w x h => own6_any x l w h hl
  have c1 := fun w z h => position_any z l x 0 w h hd
  have c2 := fun w z h => position_any z l x 1 w h hd
  simp only [posE_01] at c2
  generalize posV l x 0 = A at *
  generalize posV l x 1 = B at *
  by_cases h0 : posE l x 0 = 0
  · have hb : bothOk l x = true := by simpa [bothOk] using h0
    simp only [h0] at c1 c2
    have C1 := Lib.hid c1; have C2 := Lib.hid c2; have H := Lib.hid h; have HB := Lib.hid hb
    clear c1 c2 h hd hl h0 hb
    go_enter Try.func44, Try.ntmps44
    go_wp2_with fail
    refine (cOwn.out _ _ H.out).mono ?_
    rintro e w1 ⟨x1, rfl, ho, hb⟩
    have H_1 := Lib.hid (H.out.ext hb)
    have X_1 := Lib.hid (Sl.of_own ho)
    have B_1 := Lib.hid hb
    clear hb ho H
    go_wp2_with fail
    refine (C1.out _ _ X_1.out).mono ?_
    rintro e w2 ⟨rfl, hb⟩
    have H_2 := Lib.hid (H_1.out.ext hb)
    have B_2 := Lib.hid (B_1.out.trans (hb.mono B_1.out.size))
    clear hb X_1 H_1 B_1
    go_wp2_with fail
    refine (cOwn.out _ _ H_2.out).mono ?_
    rintro e w3 ⟨x2, rfl, ho, hb⟩
    have X_3 := Lib.hid (Sl.of_own ho)
    have B_3 := Lib.hid (B_2.out.trans (hb.mono B_2.out.size))
    clear hb ho H_2 B_2
    go_wp2_with fail
    refine (C2.out _ _ X_3.out).mono ?_
    rintro e w4 ⟨rfl, hb⟩
    have B_4 := Lib.hid (B_3.out.trans (hb.mono B_3.out.size))
    clear hb X_3 B_3
    go_wp2
    go_ret3
    exact ⟨by rw [HB.out]; rfl, B_4.out⟩
  · have hb : bothOk l x = false := by simpa [bothOk] using h0
    have hb1 : (posE l x 0 == 0) = false := by simpa using h0
    generalize posE l x 0 = E at *
    have C1 := Lib.hid c1; have C2 := Lib.hid c2; have H := Lib.hid h; have HB := Lib.hid hb
    clear c1 c2 h hd hl h0 hb
    go_enter Try.func44, Try.ntmps44
    go_wp2_with fail
    refine (cOwn.out _ _ H.out).mono ?_
    rintro e w1 ⟨x1, rfl, ho, hb⟩
    have H_1 := Lib.hid (H.out.ext hb)
    have X_1 := Lib.hid (Sl.of_own ho)
    have B_1 := Lib.hid hb
    clear hb ho H
    go_wp2_with fail
    refine (C1.out _ _ X_1.out).mono ?_
    rintro e w2 ⟨rfl, hb⟩
    have H_2 := Lib.hid (H_1.out.ext hb)
    have B_2 := Lib.hid (B_1.out.trans (hb.mono B_1.out.size))
    clear hb X_1 H_1 B_1
    go_wp2_with fail
    refine (cOwn.out _ _ H_2.out).mono ?_
    rintro e w3 ⟨x2, rfl, ho, hb⟩
    have X_3 := Lib.hid (Sl.of_own ho)
    have B_3 := Lib.hid (B_2.out.trans (hb.mono B_2.out.size))
    clear hb ho H_2 B_2
    go_wp2_with fail
    refine (C2.out _ _ X_3.out).mono ?_
    rintro e w4 ⟨rfl, hb⟩
    have B_4 := Lib.hid (B_3.out.trans (hb.mono B_3.out.size))
    clear hb X_3 B_3
    go_wp2
    go_ret3
    exact ⟨by rw [HB.out]; rfl, B_4.out⟩

theorem both_vals {l : List Pc} {x : Int} (h : bothOk l x = true) : errL l = 0 ∧ 0 ≤ x ∧ x ≤ inL l ∧ posV l x 0 = leftP x 0 (runsT false l) ∧ posV l x 1 = rightP x (outL l) (runsT false l) := by
  have h0 : posE l x 0 = 0 := by simpa [bothOk] using h
  unfold posE at h0
  split at h0
  · rename_i h1
    unfold movE at h0
    rw [if_neg (by omega)] at h0
    split at h0
    · cases h0
    · rename_i h2
      refine ⟨h1, by omega, by omega, ?_, ?_⟩
      · rw [posV, if_pos h1, movV_ok h2 (.inl rfl), if_pos rfl]
      · rw [posV, if_pos h1, movV_ok h2 (.inr rfl), if_neg (by omega)]
  · rename_i h1; exact absurd h0 h1
theorem keptE_ok {l : List Pc} {x : Int} (h : keptE l x = 0) : errL l = 0 ∧ 0 ≤ x ∧ x < inL l ∧ keptR l x = keptP x (runsT false l) := by
  have h' := h
  unfold keptE at h'
  split at h'
  · rename_i h1
    split at h'
    · cases h'
    · rename_i h2
      exact ⟨h1, by omega, by omega, by rw [keptR, if_pos h]⟩
  · rename_i h1; exact absurd h' h1

end Go.Proofs.Ytdlbjfgpfjcpaaa
