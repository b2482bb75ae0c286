/- quartolaw07.TransformSplits returns true: the walk. -/
import Derived.Test.YtdlbjfgpfjcpaaaKnown7
namespace Go.Proofs.Ytdlbjfgpfjcpaaa
open Go.RowKit

set_option maxHeartbeats 8000000 in
set_option maxRecDepth 100000 in
theorem lawTransformSplits_any (v : Value) (l : List Pc) (v' : Value) (l' : List Pc) (w : World) (h : Sl pcE w v l) (hd : ∀ p, p ∈ l → p.wf) (hl : l.length * 32 ≤ 140737488355328) (h' : Sl pcE w v' l') (hd' : ∀ p, p ∈ l' → p.wf) (hl' : l'.length * 32 ≤ 140737488355328) :
    Calls Try.prog 17 #[v, v'] w fun e w' => e = .returned (.bool true) ∧ Below w.heap.size w w' := by
  have cA := Lib.hid fun w x h => own7_any x l w h hl
  have cB := Lib.hid fun w x h => own7_any x l' w h hl'
  have cD := fun w x y h k => disj_any x y l l' w h k hd hd'
  have H := Lib.hid h; have K := Lib.hid h'
  by_cases h0 : prE l l' = 0
  · rw [h0] at cD
    cases hD : disB l l' with
    | true =>
      rw [hD] at cD
      obtain ⟨ea, eb, ei⟩ := prE_ok h0
      obtain ⟨q1, q2, q3, q4⟩ := tr_splits h0 hD
      have c1 := fun w x y h k => transform_any x y l l' true w h k hd hd'
      have c2 := fun w x y h k => transform_any x y l l' false w h k hd hd'
      have cM := fun w x y h k => merge_any x y l l' w h k hd hd'
      rw [← q1, ← q2] at c2
      by_cases hm : merE l l' = 0
      · rw [hm] at cM
        have q5 := q4 hm
        have eM : errL (merR l l') = 0 := by unfold errL; rw [q5]
        have cL1 := fun w x h => lengths_any x l w h hd
        have cL2 := fun w x h => lengths_any x l' w h hd'
        have cL3 := fun w x h => lengths_any x (merR l l') w h (wf_err eM)
        rw [lensV_fine ea] at cL1
        rw [lensV_fine eb] at cL2
        have e3 : lensV (merR l l') = .tuple #[.int .i64 (inL l), .int .i64 (outL l + outL l' - inL l), .int .i64 0] := by unfold lensV; rw [q5]
        rw [e3] at cL3
        have b1 := ((errL_iff l).1 ea).2.2
        have b2 := ((errL_iff l').1 eb).2.2
        have p1 := Val.inL ((errL_iff l).1 ea).2.1
        have p2 := Val.outL ((errL_iff l).1 ea).2.1
        have p3 := Val.outL ((errL_iff l').1 eb).2.1
        have w1 : IntKind.i64.wrap (outL l + outL l') = outL l + outL l' := IntWalk.i64_in _ (by omega)
        have w2 : IntKind.i64.wrap (outL l + outL l' - inL l) = outL l + outL l' - inL l := IntWalk.i64_in _ (by omega)
        clear b1 b2 p1 p2 p3 e3 q5 eM
        generalize trE true l l' = E at *
        generalize trR true l l' = R at *
        generalize merR l l' = M at *
        generalize inL l = a at *
        generalize outL l = b at *
        generalize outL l' = c at *
        generalize inL l' = d at *
        have CD := Lib.hid cD; have C1 := Lib.hid c1; have C2 := Lib.hid c2; have CM := Lib.hid cM; have CL1 := Lib.hid cL1; have CL2 := Lib.hid cL2; have CL3 := Lib.hid cL3
        clear cD c1 c2 cM cL1 cL2 cL3 q1 q2 q3 q4 ea eb ei hD h0 hm h h' hd hd' hl hl'
        go_enter Try.func17, Try.ntmps17
        go_wp2_with fail
        refine (cA.out _ _ H.out).mono ?_
        rintro e w1 ⟨x0, rfl, ho, hb⟩
        have H_1 := Lib.hid (H.out.ext hb)
        have K_1 := Lib.hid (K.out.ext hb)
        have X_1 := Lib.hid (Sl.of_own ho)
        have B_1 := Lib.hid hb
        clear hb ho H K
        go_wp2_with fail
        refine (cB.out _ _ K_1.out).mono ?_
        rintro e w2 ⟨x1, rfl, ho, hb⟩
        have H_2 := Lib.hid (H_1.out.ext hb)
        have K_2 := Lib.hid (K_1.out.ext hb)
        have X_2 := Lib.hid (X_1.out.ext hb)
        have Y_2 := Lib.hid (Sl.of_own ho)
        have B_2 := Lib.hid (B_1.out.trans (hb.mono B_1.out.size))
        clear hb ho H_1 K_1 X_1 B_1
        go_wp2_with fail
        refine (CD.out _ _ _ X_2.out Y_2.out).mono ?_
        rintro e w3 ⟨rfl, hb⟩
        have H_3 := Lib.hid (H_2.out.ext hb)
        have K_3 := Lib.hid (K_2.out.ext hb)
        have B_3 := Lib.hid (B_2.out.trans (hb.mono B_2.out.size))
        clear hb X_2 Y_2 H_2 K_2 B_2
        go_wp2_with fail
        refine (cA.out _ _ H_3.out).mono ?_
        rintro e w4 ⟨x3, rfl, ho, hb⟩
        have H_4 := Lib.hid (H_3.out.ext hb)
        have K_4 := Lib.hid (K_3.out.ext hb)
        have X_4 := Lib.hid (Sl.of_own ho)
        have B_4 := Lib.hid (B_3.out.trans (hb.mono B_3.out.size))
        clear hb ho H_3 K_3 B_3
        go_wp2_with fail
        refine (cB.out _ _ K_4.out).mono ?_
        rintro e w5 ⟨x4, rfl, ho, hb⟩
        have H_5 := Lib.hid (H_4.out.ext hb)
        have K_5 := Lib.hid (K_4.out.ext hb)
        have X_5 := Lib.hid (X_4.out.ext hb)
        have Y_5 := Lib.hid (Sl.of_own ho)
        have B_5 := Lib.hid (B_4.out.trans (hb.mono B_4.out.size))
        clear hb ho H_4 K_4 X_4 B_4
        go_wp2_with fail
        refine (C1.out _ _ _ X_5.out Y_5.out).mono ?_
        rintro e w6 ⟨vp, rfl, ho, hb⟩
        have H_6 := Lib.hid (H_5.out.ext hb)
        have K_6 := Lib.hid (K_5.out.ext hb)
        have P_6 := Lib.hid (Sl.of_own ho)
        have B_6 := Lib.hid (B_5.out.trans (hb.mono B_5.out.size))
        clear hb ho X_5 Y_5 H_5 K_5 B_5
        go_wp2_with fail
        refine (cA.out _ _ H_6.out).mono ?_
        rintro e w7 ⟨x6, rfl, ho, hb⟩
        have H_7 := Lib.hid (H_6.out.ext hb)
        have K_7 := Lib.hid (K_6.out.ext hb)
        have P_7 := Lib.hid (P_6.out.ext hb)
        have X_7 := Lib.hid (Sl.of_own ho)
        have B_7 := Lib.hid (B_6.out.trans (hb.mono B_6.out.size))
        clear hb ho H_6 K_6 P_6 B_6
        go_wp2_with fail
        refine (cB.out _ _ K_7.out).mono ?_
        rintro e w8 ⟨x7, rfl, ho, hb⟩
        have H_8 := Lib.hid (H_7.out.ext hb)
        have K_8 := Lib.hid (K_7.out.ext hb)
        have P_8 := Lib.hid (P_7.out.ext hb)
        have X_8 := Lib.hid (X_7.out.ext hb)
        have Y_8 := Lib.hid (Sl.of_own ho)
        have B_8 := Lib.hid (B_7.out.trans (hb.mono B_7.out.size))
        clear hb ho H_7 K_7 P_7 X_7 B_7
        go_wp2_with fail
        refine (C2.out _ _ _ X_8.out Y_8.out).mono ?_
        rintro e w9 ⟨vq, rfl, ho, hb⟩
        have H_9 := Lib.hid (H_8.out.ext hb)
        have K_9 := Lib.hid (K_8.out.ext hb)
        have P_9 := Lib.hid (P_8.out.ext hb)
        have Q_9 := Lib.hid (Sl.of_own ho)
        have B_9 := Lib.hid (B_8.out.trans (hb.mono B_8.out.size))
        clear hb ho X_8 Y_8 H_8 K_8 P_8 B_8
        go_wp2_with fail
        refine (same_any _ _ R R _ P_9.out Q_9.out).mono ?_
        rintro e w10 ⟨rfl, hb⟩
        have H_10 := Lib.hid (H_9.out.ext hb)
        have K_10 := Lib.hid (K_9.out.ext hb)
        have B_10 := Lib.hid (B_9.out.trans (hb.mono B_9.out.size))
        clear hb P_9 Q_9 H_9 K_9 B_9
        rw [sameB_refl R]
        go_wp2_with fail
        refine (cA.out _ _ H_10.out).mono ?_
        rintro e w11 ⟨x10, rfl, ho, hb⟩
        have H_11 := Lib.hid (H_10.out.ext hb)
        have K_11 := Lib.hid (K_10.out.ext hb)
        have X_11 := Lib.hid (Sl.of_own ho)
        have B_11 := Lib.hid (B_10.out.trans (hb.mono B_10.out.size))
        clear hb ho H_10 K_10 B_10
        go_wp2_with fail
        refine (cB.out _ _ K_11.out).mono ?_
        rintro e w12 ⟨x11, rfl, ho, hb⟩
        have H_12 := Lib.hid (H_11.out.ext hb)
        have K_12 := Lib.hid (K_11.out.ext hb)
        have X_12 := Lib.hid (X_11.out.ext hb)
        have Y_12 := Lib.hid (Sl.of_own ho)
        have B_12 := Lib.hid (B_11.out.trans (hb.mono B_11.out.size))
        clear hb ho H_11 K_11 X_11 B_11
        go_wp2_with fail
        refine (CM.out _ _ _ X_12.out Y_12.out).mono ?_
        rintro e w13 ⟨vm, rfl, ho, hb⟩
        have H_13 := Lib.hid (H_12.out.ext hb)
        have K_13 := Lib.hid (K_12.out.ext hb)
        have M_13 := Lib.hid (Sl.of_own ho)
        have B_13 := Lib.hid (B_12.out.trans (hb.mono B_12.out.size))
        clear hb ho X_12 Y_12 H_12 K_12 B_12
        go_wp2_with fail
        refine (cA.out _ _ H_13.out).mono ?_
        rintro e w14 ⟨x13, rfl, ho, hb⟩
        have K_14 := Lib.hid (K_13.out.ext hb)
        have M_14 := Lib.hid (M_13.out.ext hb)
        have X_14 := Lib.hid (Sl.of_own ho)
        have B_14 := Lib.hid (B_13.out.trans (hb.mono B_13.out.size))
        clear hb ho H_13 K_13 M_13 B_13
        go_wp2_with fail
        refine (CL1.out _ _ X_14.out).mono ?_
        rintro e w15 ⟨rfl, hb⟩
        have K_15 := Lib.hid (K_14.out.ext hb)
        have M_15 := Lib.hid (M_14.out.ext hb)
        have B_15 := Lib.hid (B_14.out.trans (hb.mono B_14.out.size))
        clear hb X_14 K_14 M_14 B_14
        go_wp2_with fail
        refine (cB.out _ _ K_15.out).mono ?_
        rintro e w16 ⟨x15, rfl, ho, hb⟩
        have M_16 := Lib.hid (M_15.out.ext hb)
        have X_16 := Lib.hid (Sl.of_own ho)
        have B_16 := Lib.hid (B_15.out.trans (hb.mono B_15.out.size))
        clear hb ho K_15 M_15 B_15
        go_wp2_with fail
        refine (CL2.out _ _ X_16.out).mono ?_
        rintro e w17 ⟨rfl, hb⟩
        have M_17 := Lib.hid (M_16.out.ext hb)
        have B_17 := Lib.hid (B_16.out.trans (hb.mono B_16.out.size))
        clear hb X_16 M_16 B_16
        go_wp2_with fail
        refine (CL3.out _ _ M_17.out).mono ?_
        rintro e w18 ⟨rfl, hb⟩
        have B_18 := Lib.hid (B_17.out.trans (hb.mono B_17.out.size))
        clear hb M_17 B_17
        go_wp2_with fail
        refine (known7_any _).mono ?_
        rintro e w19 ⟨rfl, hb⟩
        have B_19 := Lib.hid (B_18.out.trans (hb.mono B_18.out.size))
        clear hb B_18
        go_wp2
        go_ret
        exact ⟨rfl, B_19.out⟩
      · have hm5 : merE l l' = 5 := q3.resolve_left hm
        rw [hm5] at cM
        generalize trE true l l' = E at *
        generalize trR true l l' = R at *
        generalize merR l l' = M at *
        have CD := Lib.hid cD; have C1 := Lib.hid c1; have C2 := Lib.hid c2; have CM := Lib.hid cM
        clear cD c1 c2 cM q1 q2 q3 q4 ea eb ei hD h0 hm hm5 h h' hd hd' hl hl'
        go_enter Try.func17, Try.ntmps17
        go_wp2_with fail
        refine (cA.out _ _ H.out).mono ?_
        rintro e w1 ⟨x0, rfl, ho, hb⟩
        have H_1 := Lib.hid (H.out.ext hb)
        have K_1 := Lib.hid (K.out.ext hb)
        have X_1 := Lib.hid (Sl.of_own ho)
        have B_1 := Lib.hid hb
        clear hb ho H K
        go_wp2_with fail
        refine (cB.out _ _ K_1.out).mono ?_
        rintro e w2 ⟨x1, rfl, ho, hb⟩
        have H_2 := Lib.hid (H_1.out.ext hb)
        have K_2 := Lib.hid (K_1.out.ext hb)
        have X_2 := Lib.hid (X_1.out.ext hb)
        have Y_2 := Lib.hid (Sl.of_own ho)
        have B_2 := Lib.hid (B_1.out.trans (hb.mono B_1.out.size))
        clear hb ho H_1 K_1 X_1 B_1
        go_wp2_with fail
        refine (CD.out _ _ _ X_2.out Y_2.out).mono ?_
        rintro e w3 ⟨rfl, hb⟩
        have H_3 := Lib.hid (H_2.out.ext hb)
        have K_3 := Lib.hid (K_2.out.ext hb)
        have B_3 := Lib.hid (B_2.out.trans (hb.mono B_2.out.size))
        clear hb X_2 Y_2 H_2 K_2 B_2
        go_wp2_with fail
        refine (cA.out _ _ H_3.out).mono ?_
        rintro e w4 ⟨x3, rfl, ho, hb⟩
        have H_4 := Lib.hid (H_3.out.ext hb)
        have K_4 := Lib.hid (K_3.out.ext hb)
        have X_4 := Lib.hid (Sl.of_own ho)
        have B_4 := Lib.hid (B_3.out.trans (hb.mono B_3.out.size))
        clear hb ho H_3 K_3 B_3
        go_wp2_with fail
        refine (cB.out _ _ K_4.out).mono ?_
        rintro e w5 ⟨x4, rfl, ho, hb⟩
        have H_5 := Lib.hid (H_4.out.ext hb)
        have K_5 := Lib.hid (K_4.out.ext hb)
        have X_5 := Lib.hid (X_4.out.ext hb)
        have Y_5 := Lib.hid (Sl.of_own ho)
        have B_5 := Lib.hid (B_4.out.trans (hb.mono B_4.out.size))
        clear hb ho H_4 K_4 X_4 B_4
        go_wp2_with fail
        refine (C1.out _ _ _ X_5.out Y_5.out).mono ?_
        rintro e w6 ⟨vp, rfl, ho, hb⟩
        have H_6 := Lib.hid (H_5.out.ext hb)
        have K_6 := Lib.hid (K_5.out.ext hb)
        have P_6 := Lib.hid (Sl.of_own ho)
        have B_6 := Lib.hid (B_5.out.trans (hb.mono B_5.out.size))
        clear hb ho X_5 Y_5 H_5 K_5 B_5
        go_wp2_with fail
        refine (cA.out _ _ H_6.out).mono ?_
        rintro e w7 ⟨x6, rfl, ho, hb⟩
        have H_7 := Lib.hid (H_6.out.ext hb)
        have K_7 := Lib.hid (K_6.out.ext hb)
        have P_7 := Lib.hid (P_6.out.ext hb)
        have X_7 := Lib.hid (Sl.of_own ho)
        have B_7 := Lib.hid (B_6.out.trans (hb.mono B_6.out.size))
        clear hb ho H_6 K_6 P_6 B_6
        go_wp2_with fail
        refine (cB.out _ _ K_7.out).mono ?_
        rintro e w8 ⟨x7, rfl, ho, hb⟩
        have H_8 := Lib.hid (H_7.out.ext hb)
        have K_8 := Lib.hid (K_7.out.ext hb)
        have P_8 := Lib.hid (P_7.out.ext hb)
        have X_8 := Lib.hid (X_7.out.ext hb)
        have Y_8 := Lib.hid (Sl.of_own ho)
        have B_8 := Lib.hid (B_7.out.trans (hb.mono B_7.out.size))
        clear hb ho H_7 K_7 P_7 X_7 B_7
        go_wp2_with fail
        refine (C2.out _ _ _ X_8.out Y_8.out).mono ?_
        rintro e w9 ⟨vq, rfl, ho, hb⟩
        have H_9 := Lib.hid (H_8.out.ext hb)
        have K_9 := Lib.hid (K_8.out.ext hb)
        have P_9 := Lib.hid (P_8.out.ext hb)
        have Q_9 := Lib.hid (Sl.of_own ho)
        have B_9 := Lib.hid (B_8.out.trans (hb.mono B_8.out.size))
        clear hb ho X_8 Y_8 H_8 K_8 P_8 B_8
        go_wp2_with fail
        refine (same_any _ _ R R _ P_9.out Q_9.out).mono ?_
        rintro e w10 ⟨rfl, hb⟩
        have H_10 := Lib.hid (H_9.out.ext hb)
        have K_10 := Lib.hid (K_9.out.ext hb)
        have B_10 := Lib.hid (B_9.out.trans (hb.mono B_9.out.size))
        clear hb P_9 Q_9 H_9 K_9 B_9
        rw [sameB_refl R]
        go_wp2_with fail
        refine (cA.out _ _ H_10.out).mono ?_
        rintro e w11 ⟨x10, rfl, ho, hb⟩
        have K_11 := Lib.hid (K_10.out.ext hb)
        have X_11 := Lib.hid (Sl.of_own ho)
        have B_11 := Lib.hid (B_10.out.trans (hb.mono B_10.out.size))
        clear hb ho H_10 K_10 B_10
        go_wp2_with fail
        refine (cB.out _ _ K_11.out).mono ?_
        rintro e w12 ⟨x11, rfl, ho, hb⟩
        have X_12 := Lib.hid (X_11.out.ext hb)
        have Y_12 := Lib.hid (Sl.of_own ho)
        have B_12 := Lib.hid (B_11.out.trans (hb.mono B_11.out.size))
        clear hb ho K_11 X_11 B_11
        go_wp2_with fail
        refine (CM.out _ _ _ X_12.out Y_12.out).mono ?_
        rintro e w13 ⟨vm, rfl, ho, hb⟩
        have M_13 := Lib.hid (Sl.of_own ho)
        have B_13 := Lib.hid (B_12.out.trans (hb.mono B_12.out.size))
        clear hb ho X_12 Y_12 B_12
        go_wp2_with fail
        refine (known7_any _).mono ?_
        rintro e w14 ⟨rfl, hb⟩
        have B_14 := Lib.hid (B_13.out.trans (hb.mono B_13.out.size))
        clear hb M_13 B_13
        go_wp2
        go_ret
        exact ⟨rfl, B_14.out⟩
    | false =>
      rw [hD] at cD
      have CD := Lib.hid cD
      clear cD hD h0 h h' hd hd' hl hl'
      go_enter Try.func17, Try.ntmps17
      go_wp2_with fail
      refine (cA.out _ _ H.out).mono ?_
      rintro e w1 ⟨x0, rfl, ho, hb⟩
      have K_1 := Lib.hid (K.out.ext hb)
      have X_1 := Lib.hid (Sl.of_own ho)
      have B_1 := Lib.hid hb
      clear hb ho H K
      go_wp2_with fail
      refine (cB.out _ _ K_1.out).mono ?_
      rintro e w2 ⟨x1, rfl, ho, hb⟩
      have X_2 := Lib.hid (X_1.out.ext hb)
      have Y_2 := Lib.hid (Sl.of_own ho)
      have B_2 := Lib.hid (B_1.out.trans (hb.mono B_1.out.size))
      clear hb ho K_1 X_1 B_1
      go_wp2_with fail
      refine (CD.out _ _ _ X_2.out Y_2.out).mono ?_
      rintro e w3 ⟨rfl, hb⟩
      have B_3 := Lib.hid (B_2.out.trans (hb.mono B_2.out.size))
      clear hb X_2 Y_2 B_2
      go_wp2_with fail
      refine (known7_any _).mono ?_
      rintro e w4 ⟨rfl, hb⟩
      have B_4 := Lib.hid (B_3.out.trans (hb.mono B_3.out.size))
      clear hb B_3
      go_wp2
      go_ret
      exact ⟨rfl, B_4.out⟩
  · have hb : (prE l l' != 0) = true := by simpa using h0
    generalize prE l l' = E at *
    generalize disB l l' = DD at *
    have CD := Lib.hid cD
    clear cD h0 h h' hd hd' hl hl'
    go_enter Try.func17, Try.ntmps17
    go_wp2_with fail
    refine (cA.out _ _ H.out).mono ?_
    rintro e w1 ⟨x0, rfl, ho, hb⟩
    have K_1 := Lib.hid (K.out.ext hb)
    have X_1 := Lib.hid (Sl.of_own ho)
    have B_1 := Lib.hid hb
    clear hb ho H K
    go_wp2_with fail
    refine (cB.out _ _ K_1.out).mono ?_
    rintro e w2 ⟨x1, rfl, ho, hb⟩
    have X_2 := Lib.hid (X_1.out.ext hb)
    have Y_2 := Lib.hid (Sl.of_own ho)
    have B_2 := Lib.hid (B_1.out.trans (hb.mono B_1.out.size))
    clear hb ho K_1 X_1 B_1
    go_wp2_with fail
    refine (CD.out _ _ _ X_2.out Y_2.out).mono ?_
    rintro e w3 ⟨rfl, hb⟩
    have B_3 := Lib.hid (B_2.out.trans (hb.mono B_2.out.size))
    clear hb X_2 Y_2 B_2
    go_wp2_with fail
    refine (known7_any _).mono ?_
    rintro e w4 ⟨rfl, hb⟩
    have B_4 := Lib.hid (B_3.out.trans (hb.mono B_3.out.size))
    clear hb B_3
    go_wp2
    go_ret
    exact ⟨rfl, B_4.out⟩

end Go.Proofs.Ytdlbjfgpfjcpaaa