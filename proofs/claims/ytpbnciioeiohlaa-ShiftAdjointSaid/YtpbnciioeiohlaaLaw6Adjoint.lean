/- quartolaw06.ShiftAdjoint returns true: the walk. -/
import Derived.Test.YtpbnciioeiohlaaBoth6
namespace Go.Proofs.Ytpbnciioeiohlaa
open Go.RowKit

set_option maxHeartbeats 4000000 in
set_option maxRecDepth 100000 in
theorem lawShiftAdjoint_any (v : Value) (l : List Pc) (x y : Int) (w : World) (h : Sl pcE w v l) (hd : ∀ p, p ∈ l → p.wf) (hl : l.length * 32 ≤ 140737488355328) (_hx : -9223372036854775808 ≤ x) (_hx' : x ≤ 9223372036854775807) (_hy : -9223372036854775808 ≤ y) (_hy' : y ≤ 9223372036854775807) :
    Calls Try.prog 17 #[v, .int .i64 x, .int .i64 y] w fun e w' => e = .returned (.bool true) ∧ Below w.heap.size w w' := by
  have cOwn := Lib.hid fun w x h => own6_any x l w h hl
  have cL := fun w z h => lengths_any z l w h hd
  have c1 := fun w z h => both_any z l x w h hd hl
  have c2 := fun w z h => back_any z l y 1 w h hd
  have c3 := fun w z h => back_any z l y 0 w h hd
  have H := Lib.hid h
  by_cases h0 : errL l = 0
  · simp only [lensV_ok h0] at cL
    by_cases h1 : x < 0 ∨ inL l < x ∨ y < 0 ∨ outL l < y
    · have CL := Lib.hid cL
      clear cL c1 c2 c3 h hd hl h0
      generalize inL l = n at *
      generalize outL l = m at *
      by_cases g1 : x < 0
      · clear h1
        go_enter Try.func17, Try.ntmps17
        go_wp2_with fail
        refine (cOwn.out _ _ H.out).mono ?_
        rintro e w1 ⟨x1, rfl, ho, hb⟩
        have H_1 := Lib.hid (H.out.ext hb)
        have X_1 := Lib.hid (Sl.of_own ho)
        have B_1 := Lib.hid hb
        clear hb ho H
        go_wp2_with fail
        refine (CL.out _ _ X_1.out).mono ?_
        rintro e w2 ⟨rfl, hb⟩
        have B_2 := Lib.hid (B_1.out.trans (hb.mono B_1.out.size))
        clear hb X_1 H_1 B_1
        go_wp2_with fail
        refine (known6_any _).mono ?_
        rintro e w3 ⟨rfl, hb⟩
        have B_3 := Lib.hid (B_2.out.trans (hb.mono B_2.out.size))
        clear hb B_2
        go_wp2
        go_ret
        exact ⟨rfl, B_3.out⟩
      · by_cases g2 : n < x
        · clear h1
          go_enter Try.func17, Try.ntmps17
          go_wp2_with fail
          refine (cOwn.out _ _ H.out).mono ?_
          rintro e w1 ⟨x1, rfl, ho, hb⟩
          have H_1 := Lib.hid (H.out.ext hb)
          have X_1 := Lib.hid (Sl.of_own ho)
          have B_1 := Lib.hid hb
          clear hb ho H
          go_wp2_with fail
          refine (CL.out _ _ X_1.out).mono ?_
          rintro e w2 ⟨rfl, hb⟩
          have B_2 := Lib.hid (B_1.out.trans (hb.mono B_1.out.size))
          clear hb X_1 H_1 B_1
          go_wp2_with fail
          refine (known6_any _).mono ?_
          rintro e w3 ⟨rfl, hb⟩
          have B_3 := Lib.hid (B_2.out.trans (hb.mono B_2.out.size))
          clear hb B_2
          go_wp2
          go_ret
          exact ⟨rfl, B_3.out⟩
        · by_cases g3 : y < 0
          · clear h1
            go_enter Try.func17, Try.ntmps17
            go_wp2_with fail
            refine (cOwn.out _ _ H.out).mono ?_
            rintro e w1 ⟨x1, rfl, ho, hb⟩
            have H_1 := Lib.hid (H.out.ext hb)
            have X_1 := Lib.hid (Sl.of_own ho)
            have B_1 := Lib.hid hb
            clear hb ho H
            go_wp2_with fail
            refine (CL.out _ _ X_1.out).mono ?_
            rintro e w2 ⟨rfl, hb⟩
            have B_2 := Lib.hid (B_1.out.trans (hb.mono B_1.out.size))
            clear hb X_1 H_1 B_1
            go_wp2_with fail
            refine (known6_any _).mono ?_
            rintro e w3 ⟨rfl, hb⟩
            have B_3 := Lib.hid (B_2.out.trans (hb.mono B_2.out.size))
            clear hb B_2
            go_wp2
            go_ret
            exact ⟨rfl, B_3.out⟩
          · have g4 : m < y := by omega
            clear h1
            go_enter Try.func17, Try.ntmps17
            go_wp2_with fail
            refine (cOwn.out _ _ H.out).mono ?_
            rintro e w1 ⟨x1, rfl, ho, hb⟩
            have H_1 := Lib.hid (H.out.ext hb)
            have X_1 := Lib.hid (Sl.of_own ho)
            have B_1 := Lib.hid hb
            clear hb ho H
            go_wp2_with fail
            refine (CL.out _ _ X_1.out).mono ?_
            rintro e w2 ⟨rfl, hb⟩
            have B_2 := Lib.hid (B_1.out.trans (hb.mono B_1.out.size))
            clear hb X_1 H_1 B_1
            go_wp2_with fail
            refine (known6_any _).mono ?_
            rintro e w3 ⟨rfl, hb⟩
            have B_3 := Lib.hid (B_2.out.trans (hb.mono B_2.out.size))
            clear hb B_2
            go_wp2
            go_ret
            exact ⟨rfl, B_3.out⟩
    · have hv := ((errL_iff l).1 h0).2.1
      obtain ⟨a1, a2⟩ := adjoint hv (x := x) (q := y) (by omega) (by omega) (by omega) (by omega)
      have e1 : posE l x 0 = 0 := by rw [posE, if_pos h0, movE_ok (by omega) (.inl rfl)]
      have hb : bothOk l x = true := by simpa [bothOk] using e1
      obtain ⟨k0, k1, k2, k3, k4⟩ := both_vals hb
      have b1 : backE l y 1 = 0 := by rw [backE, if_pos h0, movE_ok (by omega) (.inr rfl)]
      have b2 : backE l y 0 = 0 := by rw [backE, if_pos h0, movE_ok (by omega) (.inl rfl)]
      have b3 : backV l y 1 = rightP y (inL l) (runsT true l) := by rw [backV, if_pos h0, movV_ok (by omega) (.inr rfl), if_neg (by omega)]
      have b4 : backV l y 0 = leftP y 0 (runsT true l) := by rw [backV, if_pos h0, movV_ok (by omega) (.inl rfl), if_pos rfl]
      rw [← k3, ← b3] at a1
      rw [← k4, ← b4] at a2
      simp only [hb] at c1
      simp only [b1] at c2
      simp only [b2] at c3
      generalize posV l x 0 = P1 at *
      generalize posV l x 1 = P2 at *
      generalize backV l y 1 = B1 at *
      generalize backV l y 0 = B2 at *
      have g1 : ¬ x < 0 := by omega
      have g2 : ¬ inL l < x := by omega
      have g3 : ¬ y < 0 := by omega
      have g4 : ¬ outL l < y := by omega
      have CL := Lib.hid cL; have C1 := Lib.hid c1; have C2 := Lib.hid c2; have C3 := Lib.hid c3
      clear cL c1 c2 c3 h hd hl h0 h1 hv e1 hb k0 k1 k2 k3 k4 b1 b2 b3 b4
      generalize inL l = n at *
      generalize outL l = m at *
      by_cases p1 : P1 ≤ y
      · have p1' := a1.1 p1
        by_cases p2 : y ≤ P2
        · have p2' := a2.1 p2
          clear a1 a2
          go_enter Try.func17, Try.ntmps17
          go_wp2_with fail
          refine (cOwn.out _ _ H.out).mono ?_
          rintro e w1 ⟨x1, rfl, ho, hb⟩
          have H_1 := Lib.hid (H.out.ext hb)
          have X_1 := Lib.hid (Sl.of_own ho)
          have B_1 := Lib.hid hb
          clear hb ho H
          go_wp2_with fail
          refine (CL.out _ _ X_1.out).mono ?_
          rintro e w2 ⟨rfl, hb⟩
          have H_2 := Lib.hid (H_1.out.ext hb)
          have B_2 := Lib.hid (B_1.out.trans (hb.mono B_1.out.size))
          clear hb X_1 H_1 B_1
          go_wp2_with fail
          refine (C1.out _ _ H_2.out).mono ?_
          rintro e w3 ⟨rfl, hb⟩
          have H_3 := Lib.hid (H_2.out.ext hb)
          have B_3 := Lib.hid (B_2.out.trans (hb.mono B_2.out.size))
          clear hb H_2 B_2
          go_wp2_with fail
          refine (cOwn.out _ _ H_3.out).mono ?_
          rintro e w4 ⟨x2, rfl, ho, hb⟩
          have H_4 := Lib.hid (H_3.out.ext hb)
          have X_4 := Lib.hid (Sl.of_own ho)
          have B_4 := Lib.hid (B_3.out.trans (hb.mono B_3.out.size))
          clear hb ho H_3 B_3
          go_wp2_with fail
          refine (C2.out _ _ X_4.out).mono ?_
          rintro e w5 ⟨rfl, hb⟩
          have H_5 := Lib.hid (H_4.out.ext hb)
          have B_5 := Lib.hid (B_4.out.trans (hb.mono B_4.out.size))
          clear hb X_4 H_4 B_4
          go_wp2_with fail
          refine (cOwn.out _ _ H_5.out).mono ?_
          rintro e w6 ⟨x3, rfl, ho, hb⟩
          have X_6 := Lib.hid (Sl.of_own ho)
          have B_6 := Lib.hid (B_5.out.trans (hb.mono B_5.out.size))
          clear hb ho H_5 B_5
          go_wp2_with fail
          refine (C3.out _ _ X_6.out).mono ?_
          rintro e w7 ⟨rfl, hb⟩
          have B_7 := Lib.hid (B_6.out.trans (hb.mono B_6.out.size))
          clear hb X_6 B_6
          go_wp2_with fail
          refine (known6_any _).mono ?_
          rintro e w8 ⟨rfl, hb⟩
          have B_8 := Lib.hid (B_7.out.trans (hb.mono B_7.out.size))
          clear hb B_7
          go_wp2
          go_ret
          exact ⟨rfl, B_8.out⟩
        · have p2' : ¬ B2 ≤ x := fun e => p2 (a2.2 e)
          clear a1 a2
          go_enter Try.func17, Try.ntmps17
          go_wp2_with fail
          refine (cOwn.out _ _ H.out).mono ?_
          rintro e w1 ⟨x1, rfl, ho, hb⟩
          have H_1 := Lib.hid (H.out.ext hb)
          have X_1 := Lib.hid (Sl.of_own ho)
          have B_1 := Lib.hid hb
          clear hb ho H
          go_wp2_with fail
          refine (CL.out _ _ X_1.out).mono ?_
          rintro e w2 ⟨rfl, hb⟩
          have H_2 := Lib.hid (H_1.out.ext hb)
          have B_2 := Lib.hid (B_1.out.trans (hb.mono B_1.out.size))
          clear hb X_1 H_1 B_1
          go_wp2_with fail
          refine (C1.out _ _ H_2.out).mono ?_
          rintro e w3 ⟨rfl, hb⟩
          have H_3 := Lib.hid (H_2.out.ext hb)
          have B_3 := Lib.hid (B_2.out.trans (hb.mono B_2.out.size))
          clear hb H_2 B_2
          go_wp2_with fail
          refine (cOwn.out _ _ H_3.out).mono ?_
          rintro e w4 ⟨x2, rfl, ho, hb⟩
          have H_4 := Lib.hid (H_3.out.ext hb)
          have X_4 := Lib.hid (Sl.of_own ho)
          have B_4 := Lib.hid (B_3.out.trans (hb.mono B_3.out.size))
          clear hb ho H_3 B_3
          go_wp2_with fail
          refine (C2.out _ _ X_4.out).mono ?_
          rintro e w5 ⟨rfl, hb⟩
          have H_5 := Lib.hid (H_4.out.ext hb)
          have B_5 := Lib.hid (B_4.out.trans (hb.mono B_4.out.size))
          clear hb X_4 H_4 B_4
          go_wp2_with fail
          refine (cOwn.out _ _ H_5.out).mono ?_
          rintro e w6 ⟨x3, rfl, ho, hb⟩
          have X_6 := Lib.hid (Sl.of_own ho)
          have B_6 := Lib.hid (B_5.out.trans (hb.mono B_5.out.size))
          clear hb ho H_5 B_5
          go_wp2_with fail
          refine (C3.out _ _ X_6.out).mono ?_
          rintro e w7 ⟨rfl, hb⟩
          have B_7 := Lib.hid (B_6.out.trans (hb.mono B_6.out.size))
          clear hb X_6 B_6
          go_wp2_with fail
          refine (known6_any _).mono ?_
          rintro e w8 ⟨rfl, hb⟩
          have B_8 := Lib.hid (B_7.out.trans (hb.mono B_7.out.size))
          clear hb B_7
          go_wp2
          go_ret
          exact ⟨rfl, B_8.out⟩
      · have p1' : ¬ x ≤ B1 := fun e => p1 (a1.2 e)
        by_cases p2 : y ≤ P2
        · have p2' := a2.1 p2
          clear a1 a2
          go_enter Try.func17, Try.ntmps17
          go_wp2_with fail
          refine (cOwn.out _ _ H.out).mono ?_
          rintro e w1 ⟨x1, rfl, ho, hb⟩
          have H_1 := Lib.hid (H.out.ext hb)
          have X_1 := Lib.hid (Sl.of_own ho)
          have B_1 := Lib.hid hb
          clear hb ho H
          go_wp2_with fail
          refine (CL.out _ _ X_1.out).mono ?_
          rintro e w2 ⟨rfl, hb⟩
          have H_2 := Lib.hid (H_1.out.ext hb)
          have B_2 := Lib.hid (B_1.out.trans (hb.mono B_1.out.size))
          clear hb X_1 H_1 B_1
          go_wp2_with fail
          refine (C1.out _ _ H_2.out).mono ?_
          rintro e w3 ⟨rfl, hb⟩
          have H_3 := Lib.hid (H_2.out.ext hb)
          have B_3 := Lib.hid (B_2.out.trans (hb.mono B_2.out.size))
          clear hb H_2 B_2
          go_wp2_with fail
          refine (cOwn.out _ _ H_3.out).mono ?_
          rintro e w4 ⟨x2, rfl, ho, hb⟩
          have H_4 := Lib.hid (H_3.out.ext hb)
          have X_4 := Lib.hid (Sl.of_own ho)
          have B_4 := Lib.hid (B_3.out.trans (hb.mono B_3.out.size))
          clear hb ho H_3 B_3
          go_wp2_with fail
          refine (C2.out _ _ X_4.out).mono ?_
          rintro e w5 ⟨rfl, hb⟩
          have H_5 := Lib.hid (H_4.out.ext hb)
          have B_5 := Lib.hid (B_4.out.trans (hb.mono B_4.out.size))
          clear hb X_4 H_4 B_4
          go_wp2_with fail
          refine (cOwn.out _ _ H_5.out).mono ?_
          rintro e w6 ⟨x3, rfl, ho, hb⟩
          have X_6 := Lib.hid (Sl.of_own ho)
          have B_6 := Lib.hid (B_5.out.trans (hb.mono B_5.out.size))
          clear hb ho H_5 B_5
          go_wp2_with fail
          refine (C3.out _ _ X_6.out).mono ?_
          rintro e w7 ⟨rfl, hb⟩
          have B_7 := Lib.hid (B_6.out.trans (hb.mono B_6.out.size))
          clear hb X_6 B_6
          go_wp2_with fail
          refine (known6_any _).mono ?_
          rintro e w8 ⟨rfl, hb⟩
          have B_8 := Lib.hid (B_7.out.trans (hb.mono B_7.out.size))
          clear hb B_7
          go_wp2
          go_ret
          exact ⟨rfl, B_8.out⟩
        · have p2' : ¬ B2 ≤ x := fun e => p2 (a2.2 e)
          clear a1 a2
          go_enter Try.func17, Try.ntmps17
          go_wp2_with fail
          refine (cOwn.out _ _ H.out).mono ?_
          rintro e w1 ⟨x1, rfl, ho, hb⟩
          have H_1 := Lib.hid (H.out.ext hb)
          have X_1 := Lib.hid (Sl.of_own ho)
          have B_1 := Lib.hid hb
          clear hb ho H
          go_wp2_with fail
          refine (CL.out _ _ X_1.out).mono ?_
          rintro e w2 ⟨rfl, hb⟩
          have H_2 := Lib.hid (H_1.out.ext hb)
          have B_2 := Lib.hid (B_1.out.trans (hb.mono B_1.out.size))
          clear hb X_1 H_1 B_1
          go_wp2_with fail
          refine (C1.out _ _ H_2.out).mono ?_
          rintro e w3 ⟨rfl, hb⟩
          have H_3 := Lib.hid (H_2.out.ext hb)
          have B_3 := Lib.hid (B_2.out.trans (hb.mono B_2.out.size))
          clear hb H_2 B_2
          go_wp2_with fail
          refine (cOwn.out _ _ H_3.out).mono ?_
          rintro e w4 ⟨x2, rfl, ho, hb⟩
          have H_4 := Lib.hid (H_3.out.ext hb)
          have X_4 := Lib.hid (Sl.of_own ho)
          have B_4 := Lib.hid (B_3.out.trans (hb.mono B_3.out.size))
          clear hb ho H_3 B_3
          go_wp2_with fail
          refine (C2.out _ _ X_4.out).mono ?_
          rintro e w5 ⟨rfl, hb⟩
          have H_5 := Lib.hid (H_4.out.ext hb)
          have B_5 := Lib.hid (B_4.out.trans (hb.mono B_4.out.size))
          clear hb X_4 H_4 B_4
          go_wp2_with fail
          refine (cOwn.out _ _ H_5.out).mono ?_
          rintro e w6 ⟨x3, rfl, ho, hb⟩
          have X_6 := Lib.hid (Sl.of_own ho)
          have B_6 := Lib.hid (B_5.out.trans (hb.mono B_5.out.size))
          clear hb ho H_5 B_5
          go_wp2_with fail
          refine (C3.out _ _ X_6.out).mono ?_
          rintro e w7 ⟨rfl, hb⟩
          have B_7 := Lib.hid (B_6.out.trans (hb.mono B_6.out.size))
          clear hb X_6 B_6
          go_wp2_with fail
          refine (known6_any _).mono ?_
          rintro e w8 ⟨rfl, hb⟩
          have B_8 := Lib.hid (B_7.out.trans (hb.mono B_7.out.size))
          clear hb B_7
          go_wp2
          go_ret
          exact ⟨rfl, B_8.out⟩
  · have hlr := lens_err h0
    have hb : (errL l != 0) = true := by simpa using h0
    simp only [show lensV l = .tuple #[.int .i64 0, .int .i64 0, .int .i64 (errL l)] by unfold lensV; rw [hlr]; rfl] at cL
    generalize errL l = E at *
    have CL := Lib.hid cL
    clear cL c1 c2 c3 h hd hl h0 hlr
    go_enter Try.func17, Try.ntmps17
    go_wp2_with fail
    refine (cOwn.out _ _ H.out).mono ?_
    rintro e w1 ⟨x1, rfl, ho, hb⟩
    have H_1 := Lib.hid (H.out.ext hb)
    have X_1 := Lib.hid (Sl.of_own ho)
    have B_1 := Lib.hid hb
    clear hb ho H
    go_wp2_with fail
    refine (CL.out _ _ X_1.out).mono ?_
    rintro e w2 ⟨rfl, hb⟩
    have B_2 := Lib.hid (B_1.out.trans (hb.mono B_1.out.size))
    clear hb X_1 H_1 B_1
    go_wp2_with fail
    refine (known6_any _).mono ?_
    rintro e w3 ⟨rfl, hb⟩
    have B_3 := Lib.hid (B_2.out.trans (hb.mono B_2.out.size))
    clear hb B_2
    go_wp2
    go_ret
    exact ⟨rfl, B_3.out⟩

end Go.Proofs.Ytpbnciioeiohlaa
