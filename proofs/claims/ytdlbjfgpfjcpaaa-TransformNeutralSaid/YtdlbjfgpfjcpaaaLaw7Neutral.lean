/- quartolaw07.TransformNeutral returns true: the walk. -/
import Derived.Test.YtdlbjfgpfjcpaaaKnown7
import Derived.Test.YtdlbjfgpfjcpaaaCompose
namespace Go.Proofs.Ytdlbjfgpfjcpaaa
open Go.RowKit

set_option maxHeartbeats 8000000 in
set_option maxRecDepth 100000 in
theorem lawTransformNeutral_any (v : Value) (l : List Pc) (f : Bool) (w : World) (h : Sl pcE w v l) (hd : ∀ p, p ∈ l → p.wf) (hl : l.length * 32 ≤ 140737488355328) :
    Calls Try.prog 19 #[v, .bool f] w fun e w' => e = .returned (.bool true) ∧ Below w.heap.size w w' := by
  have cOwn := Lib.hid fun w x h => own7_any x l w h hl
  have cL := fun w x h => lengths_any x l w h hd
  have H := Lib.hid h
  by_cases h0 : errL l = 0
  · obtain ⟨i1, i2⟩ := idE_of h0
    obtain ⟨q1, q2, q3, q4⟩ := tr_neutral f h0
    have wI := wf_of_err (id_ok i1).2.2.1
    have cN := fun w x h => normalize_any x l w h hd
    have cI := fun w => identity_any (inL l) w
    have cJ := fun w => identity_any (outL l) w
    have c1 := fun w x y h k => transform_any x y (idS (inL l)) l f w h k wI hd
    have c2 := fun w x y h k => transform_any x y l (idS (inL l)) f w h k hd wI
    rw [lensV_fine h0] at cL
    rw [h0] at cN
    rw [i1] at cI
    rw [i2] at cJ
    rw [q1, q2] at c1
    rw [q3, q4] at c2
    generalize normS l = N at *
    generalize idS (inL l) = I at *
    generalize idS (outL l) = J at *
    generalize inL l = a at *
    generalize outL l = b at *
    have CL := Lib.hid cL; have CN := Lib.hid cN; have CI := Lib.hid cI; have CJ := Lib.hid cJ; have C1 := Lib.hid c1; have C2 := Lib.hid c2
    clear cL cN cI cJ c1 c2 i1 i2 q1 q2 q3 q4 wI h hd hl h0
    go_enter Try.func19, Try.ntmps19
    go_wp2_with fail
    refine (cOwn.out _ _ H.out).mono ?_
    rintro e w1 ⟨x0, rfl, ho, hb⟩
    have H_1 := Lib.hid (H.out.ext hb)
    have X_1 := Lib.hid (Sl.of_own ho)
    have B_1 := Lib.hid hb
    clear hb ho H
    go_wp2_with fail
    refine (CL.out _ _ X_1.out).mono ?_
    rintro e w2 ⟨rfl, hb⟩
    have H_2 := Lib.hid (H_1.out.ext hb)
    have B_2 := Lib.hid (B_1.out.trans (hb.mono B_1.out.size))
    clear hb X_1 H_1 B_1
    go_wp2_with fail
    refine (cOwn.out _ _ H_2.out).mono ?_
    rintro e w3 ⟨x2, rfl, ho, hb⟩
    have H_3 := Lib.hid (H_2.out.ext hb)
    have X_3 := Lib.hid (Sl.of_own ho)
    have B_3 := Lib.hid (B_2.out.trans (hb.mono B_2.out.size))
    clear hb ho H_2 B_2
    go_wp2_with fail
    refine (CN.out _ _ X_3.out).mono ?_
    rintro e w4 ⟨vn, rfl, ho, hb⟩
    have H_4 := Lib.hid (H_3.out.ext hb)
    have N_4 := Lib.hid (Sl.of_own ho)
    have B_4 := Lib.hid (B_3.out.trans (hb.mono B_3.out.size))
    clear hb ho X_3 H_3 B_3
    go_wp2_with fail
    refine (CI.out _).mono ?_
    rintro e w5 ⟨vi, rfl, ho, hb⟩
    have H_5 := Lib.hid (H_4.out.ext hb)
    have N_5 := Lib.hid (N_4.out.ext hb)
    have I_5 := Lib.hid (Sl.of_own ho)
    have B_5 := Lib.hid (B_4.out.trans (hb.mono B_4.out.size))
    clear hb ho H_4 N_4 B_4
    go_wp2_with fail
    refine (CJ.out _).mono ?_
    rintro e w6 ⟨vj, rfl, ho, hb⟩
    have H_6 := Lib.hid (H_5.out.ext hb)
    have N_6 := Lib.hid (N_5.out.ext hb)
    have I_6 := Lib.hid (I_5.out.ext hb)
    have J_6 := Lib.hid (Sl.of_own ho)
    have B_6 := Lib.hid (B_5.out.trans (hb.mono B_5.out.size))
    clear hb ho H_5 N_5 I_5 B_5
    go_wp2_with fail
    refine (cOwn.out _ _ H_6.out).mono ?_
    rintro e w7 ⟨x6, rfl, ho, hb⟩
    have H_7 := Lib.hid (H_6.out.ext hb)
    have N_7 := Lib.hid (N_6.out.ext hb)
    have I_7 := Lib.hid (I_6.out.ext hb)
    have J_7 := Lib.hid (J_6.out.ext hb)
    have X_7 := Lib.hid (Sl.of_own ho)
    have B_7 := Lib.hid (B_6.out.trans (hb.mono B_6.out.size))
    clear hb ho H_6 N_6 I_6 J_6 B_6
    go_wp2_with fail
    refine (C1.out _ _ _ I_7.out X_7.out).mono ?_
    rintro e w8 ⟨vp, rfl, ho, hb⟩
    have H_8 := Lib.hid (H_7.out.ext hb)
    have N_8 := Lib.hid (N_7.out.ext hb)
    have I_8 := Lib.hid (I_7.out.ext hb)
    have J_8 := Lib.hid (J_7.out.ext hb)
    have P_8 := Lib.hid (Sl.of_own ho)
    have B_8 := Lib.hid (B_7.out.trans (hb.mono B_7.out.size))
    clear hb ho X_7 H_7 N_7 I_7 J_7 B_7
    go_wp2_with fail
    refine (cOwn.out _ _ H_8.out).mono ?_
    rintro e w9 ⟨x8, rfl, ho, hb⟩
    have N_9 := Lib.hid (N_8.out.ext hb)
    have I_9 := Lib.hid (I_8.out.ext hb)
    have J_9 := Lib.hid (J_8.out.ext hb)
    have P_9 := Lib.hid (P_8.out.ext hb)
    have X_9 := Lib.hid (Sl.of_own ho)
    have B_9 := Lib.hid (B_8.out.trans (hb.mono B_8.out.size))
    clear hb ho H_8 N_8 I_8 J_8 P_8 B_8
    go_wp2_with fail
    refine (C2.out _ _ _ X_9.out I_9.out).mono ?_
    rintro e w10 ⟨vq, rfl, ho, hb⟩
    have N_10 := Lib.hid (N_9.out.ext hb)
    have J_10 := Lib.hid (J_9.out.ext hb)
    have P_10 := Lib.hid (P_9.out.ext hb)
    have Q_10 := Lib.hid (Sl.of_own ho)
    have B_10 := Lib.hid (B_9.out.trans (hb.mono B_9.out.size))
    clear hb ho X_9 I_9 N_9 J_9 P_9 B_9
    go_wp2_with fail
    refine (same_any _ _ N N _ P_10.out N_10.out).mono ?_
    rintro e w11 ⟨rfl, hb⟩
    have J_11 := Lib.hid (J_10.out.ext hb)
    have Q_11 := Lib.hid (Q_10.out.ext hb)
    have B_11 := Lib.hid (B_10.out.trans (hb.mono B_10.out.size))
    clear hb P_10 N_10 J_10 Q_10 B_10
    rw [sameB_refl N]
    go_wp2_with fail
    refine (same_any _ _ J J _ Q_11.out J_11.out).mono ?_
    rintro e w12 ⟨rfl, hb⟩
    have B_12 := Lib.hid (B_11.out.trans (hb.mono B_11.out.size))
    clear hb Q_11 J_11 B_11
    rw [sameB_refl J]
    go_wp2_with fail
    refine (known7_any _).mono ?_
    rintro e w13 ⟨rfl, hb⟩
    have B_13 := Lib.hid (B_12.out.trans (hb.mono B_12.out.size))
    clear hb B_12
    go_wp2
    go_ret
    exact ⟨rfl, B_13.out⟩
  · rw [lensV_bad h0] at cL
    have hb : (errL l != 0) = true := by simpa using h0
    generalize errL l = E at *
    have CL := Lib.hid cL
    clear cL h hd hl h0
    go_enter Try.func19, Try.ntmps19
    go_wp2_with fail
    refine (cOwn.out _ _ H.out).mono ?_
    rintro e w1 ⟨x0, rfl, ho, hb⟩
    have X_1 := Lib.hid (Sl.of_own ho)
    have B_1 := Lib.hid hb
    clear hb ho H
    go_wp2_with fail
    refine (CL.out _ _ X_1.out).mono ?_
    rintro e w2 ⟨rfl, hb⟩
    have B_2 := Lib.hid (B_1.out.trans (hb.mono B_1.out.size))
    clear hb X_1 B_1
    go_wp2_with fail
    refine (known7_any _).mono ?_
    rintro e w3 ⟨rfl, hb⟩
    have B_3 := Lib.hid (B_2.out.trans (hb.mono B_2.out.size))
    clear hb B_2
    go_wp2
    go_ret
    exact ⟨rfl, B_3.out⟩

end Go.Proofs.Ytdlbjfgpfjcpaaa