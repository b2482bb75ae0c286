/- quartolaw05.ComposeGroups returns true: the walk. -/
import Derived.Test.YtdlbjfgpfjcpaaaKnown5
namespace Go.Proofs.Ytdlbjfgpfjcpaaa
open Go.RowKit

set_option maxHeartbeats 4000000 in
set_option maxRecDepth 100000 in
theorem lawComposeGroups_any (v : Value) (l : List Pc) (v' : Value) (l' : List Pc) (v'' : Value) (l'' : List Pc) (w : World) (h : Sl pcE w v l) (hd : ∀ p, p ∈ l → p.wf) (hl : l.length * 32 ≤ 140737488355328) (h' : Sl pcE w v' l') (hd' : ∀ p, p ∈ l' → p.wf) (hl' : l'.length * 32 ≤ 140737488355328) (h'' : Sl pcE w v'' l'') (hd'' : ∀ p, p ∈ l'' → p.wf) (hl'' : l''.length * 32 ≤ 140737488355328) :
    Calls Try.prog 6 #[v, v', v''] w fun e w' => e = .returned (.bool true) ∧ Below w.heap.size w w' := by
  have cA := Lib.hid fun w x h => own5_any x l w h hl
  have cB := Lib.hid fun w x h => own5_any x l' w h hl'
  have cC := Lib.hid fun w x h => own5_any x l'' w h hl''
  have c1 := fun w x y h k => compose_any x y l l' w h k hd hd'
  have c2 := fun w x y h k => compose_any x y l' l'' w h k hd' hd''
  have H := Lib.hid h; have K := Lib.hid h'; have M := Lib.hid h''
  by_cases h0 : cmpE l l' = 0
  · by_cases h1 : cmpE l' l'' = 0
    · obtain ⟨e1, e2, e3, e4⟩ := cmpE_ok h0
      obtain ⟨f1, f2, f3, f4⟩ := cmpE_ok h1
      obtain ⟨q1, q2⟩ := cmp_assoc h0 h1
      obtain ⟨n1, n2⟩ := cmp_norm e1 e2
      have wX := wf_of_err (cmpR_ok h0).2.1
      have wY := wf_of_err (cmpR_ok h1).2.1
      have wN := wf_of_err (norm_ok e1).2.1
      have wM := wf_of_err (norm_ok e2).2.1
      have c3 := fun w x y h k => compose_any x y (cmpR l l') l'' w h k wX hd''
      have c4 := fun w x y h k => compose_any x y l (cmpR l' l'') w h k hd wY
      have c5 := fun w x h => normalize_any x l w h hd
      have c6 := fun w x h => normalize_any x l' w h hd'
      have c7 := fun w x y h k => compose_any x y (normS l) (normS l') w h k wN wM
      rw [n1, n2, h0] at c7
      rw [e1] at c5
      rw [e2] at c6
      rw [q1, q2] at c3
      rw [h0] at c1
      rw [h1] at c2
      generalize cmpR l l' = AB at *
      generalize cmpR l' l'' = BC at *
      generalize cmpR l BC = R at *
      generalize cmpE l BC = E at *
      generalize normS l = N at *
      generalize normS l' = N' at *
      have C1 := Lib.hid c1; have C2 := Lib.hid c2; have C3 := Lib.hid c3; have C4 := Lib.hid c4; have C5 := Lib.hid c5; have C6 := Lib.hid c6; have C7 := Lib.hid c7
      clear c1 c2 c3 c4 c5 c6 c7 e1 e2 e3 e4 f1 f2 f3 f4 q1 q2 n1 n2 wX wY wN wM h0 h1 h h' h'' hd hd' hd'' hl hl' hl''
      go_enter Try.func6, Try.ntmps6
      go_wp2_with fail
      refine (cA.out _ _ H.out).mono ?_
      rintro e w1 ⟨x0, rfl, ho, hb⟩
      have H_1 := Lib.hid (H.out.ext hb)
      have K_1 := Lib.hid (K.out.ext hb)
      have M_1 := Lib.hid (M.out.ext hb)
      have X_1 := Lib.hid (Sl.of_own ho)
      have B_1 := Lib.hid hb
      clear hb ho H K M
      go_wp2_with fail
      refine (cB.out _ _ K_1.out).mono ?_
      rintro e w2 ⟨x1, rfl, ho, hb⟩
      have H_2 := Lib.hid (H_1.out.ext hb)
      have K_2 := Lib.hid (K_1.out.ext hb)
      have M_2 := Lib.hid (M_1.out.ext hb)
      have X_2 := Lib.hid (X_1.out.ext hb)
      have Y_2 := Lib.hid (Sl.of_own ho)
      have B_2 := Lib.hid (B_1.out.trans (hb.mono B_1.out.size))
      clear hb ho H_1 K_1 M_1 X_1 B_1
      go_wp2_with fail
      refine (C1.out _ _ _ X_2.out Y_2.out).mono ?_
      rintro e w3 ⟨va, rfl, ho, hb⟩
      have H_3 := Lib.hid (H_2.out.ext hb)
      have K_3 := Lib.hid (K_2.out.ext hb)
      have M_3 := Lib.hid (M_2.out.ext hb)
      have AB_3 := Lib.hid (Sl.of_own ho)
      have B_3 := Lib.hid (B_2.out.trans (hb.mono B_2.out.size))
      clear hb ho X_2 Y_2 H_2 K_2 M_2 B_2
      go_wp2_with fail
      refine (cB.out _ _ K_3.out).mono ?_
      rintro e w4 ⟨x3, rfl, ho, hb⟩
      have H_4 := Lib.hid (H_3.out.ext hb)
      have K_4 := Lib.hid (K_3.out.ext hb)
      have M_4 := Lib.hid (M_3.out.ext hb)
      have AB_4 := Lib.hid (AB_3.out.ext hb)
      have X_4 := Lib.hid (Sl.of_own ho)
      have B_4 := Lib.hid (B_3.out.trans (hb.mono B_3.out.size))
      clear hb ho H_3 K_3 M_3 AB_3 B_3
      go_wp2_with fail
      refine (cC.out _ _ M_4.out).mono ?_
      rintro e w5 ⟨x4, rfl, ho, hb⟩
      have H_5 := Lib.hid (H_4.out.ext hb)
      have K_5 := Lib.hid (K_4.out.ext hb)
      have M_5 := Lib.hid (M_4.out.ext hb)
      have AB_5 := Lib.hid (AB_4.out.ext hb)
      have X_5 := Lib.hid (X_4.out.ext hb)
      have Y_5 := Lib.hid (Sl.of_own ho)
      have B_5 := Lib.hid (B_4.out.trans (hb.mono B_4.out.size))
      clear hb ho H_4 K_4 M_4 AB_4 X_4 B_4
      go_wp2_with fail
      refine (C2.out _ _ _ X_5.out Y_5.out).mono ?_
      rintro e w6 ⟨vb, rfl, ho, hb⟩
      have H_6 := Lib.hid (H_5.out.ext hb)
      have K_6 := Lib.hid (K_5.out.ext hb)
      have M_6 := Lib.hid (M_5.out.ext hb)
      have AB_6 := Lib.hid (AB_5.out.ext hb)
      have BC_6 := Lib.hid (Sl.of_own ho)
      have B_6 := Lib.hid (B_5.out.trans (hb.mono B_5.out.size))
      clear hb ho X_5 Y_5 H_5 K_5 M_5 AB_5 B_5
      go_wp2_with fail
      refine (cC.out _ _ M_6.out).mono ?_
      rintro e w7 ⟨x6, rfl, ho, hb⟩
      have H_7 := Lib.hid (H_6.out.ext hb)
      have K_7 := Lib.hid (K_6.out.ext hb)
      have AB_7 := Lib.hid (AB_6.out.ext hb)
      have BC_7 := Lib.hid (BC_6.out.ext hb)
      have X_7 := Lib.hid (Sl.of_own ho)
      have B_7 := Lib.hid (B_6.out.trans (hb.mono B_6.out.size))
      clear hb ho M_6 H_6 K_6 AB_6 BC_6 B_6
      go_wp2_with fail
      refine (C3.out _ _ _ AB_7.out X_7.out).mono ?_
      rintro e w8 ⟨vx, rfl, ho, hb⟩
      have H_8 := Lib.hid (H_7.out.ext hb)
      have K_8 := Lib.hid (K_7.out.ext hb)
      have AB_8 := Lib.hid (AB_7.out.ext hb)
      have BC_8 := Lib.hid (BC_7.out.ext hb)
      have R_8 := Lib.hid (Sl.of_own ho)
      have B_8 := Lib.hid (B_7.out.trans (hb.mono B_7.out.size))
      clear hb ho X_7 H_7 K_7 AB_7 BC_7 B_7
      go_wp2_with fail
      refine (cA.out _ _ H_8.out).mono ?_
      rintro e w9 ⟨x8, rfl, ho, hb⟩
      have H_9 := Lib.hid (H_8.out.ext hb)
      have K_9 := Lib.hid (K_8.out.ext hb)
      have AB_9 := Lib.hid (AB_8.out.ext hb)
      have BC_9 := Lib.hid (BC_8.out.ext hb)
      have R_9 := Lib.hid (R_8.out.ext hb)
      have X_9 := Lib.hid (Sl.of_own ho)
      have B_9 := Lib.hid (B_8.out.trans (hb.mono B_8.out.size))
      clear hb ho H_8 K_8 AB_8 BC_8 R_8 B_8
      go_wp2_with fail
      refine (C4.out _ _ _ X_9.out BC_9.out).mono ?_
      rintro e w10 ⟨vy, rfl, ho, hb⟩
      have H_10 := Lib.hid (H_9.out.ext hb)
      have K_10 := Lib.hid (K_9.out.ext hb)
      have AB_10 := Lib.hid (AB_9.out.ext hb)
      have R_10 := Lib.hid (R_9.out.ext hb)
      have S_10 := Lib.hid (Sl.of_own ho)
      have B_10 := Lib.hid (B_9.out.trans (hb.mono B_9.out.size))
      clear hb ho X_9 BC_9 H_9 K_9 AB_9 R_9 B_9
      go_wp2_with fail
      refine (cA.out _ _ H_10.out).mono ?_
      rintro e w11 ⟨x10, rfl, ho, hb⟩
      have K_11 := Lib.hid (K_10.out.ext hb)
      have AB_11 := Lib.hid (AB_10.out.ext hb)
      have R_11 := Lib.hid (R_10.out.ext hb)
      have S_11 := Lib.hid (S_10.out.ext hb)
      have X_11 := Lib.hid (Sl.of_own ho)
      have B_11 := Lib.hid (B_10.out.trans (hb.mono B_10.out.size))
      clear hb ho H_10 K_10 AB_10 R_10 S_10 B_10
      go_wp2_with fail
      refine (C5.out _ _ X_11.out).mono ?_
      rintro e w12 ⟨vn, rfl, ho, hb⟩
      have K_12 := Lib.hid (K_11.out.ext hb)
      have AB_12 := Lib.hid (AB_11.out.ext hb)
      have R_12 := Lib.hid (R_11.out.ext hb)
      have S_12 := Lib.hid (S_11.out.ext hb)
      have N_12 := Lib.hid (Sl.of_own ho)
      have B_12 := Lib.hid (B_11.out.trans (hb.mono B_11.out.size))
      clear hb ho X_11 K_11 AB_11 R_11 S_11 B_11
      go_wp2_with fail
      refine (cB.out _ _ K_12.out).mono ?_
      rintro e w13 ⟨x12, rfl, ho, hb⟩
      have AB_13 := Lib.hid (AB_12.out.ext hb)
      have R_13 := Lib.hid (R_12.out.ext hb)
      have S_13 := Lib.hid (S_12.out.ext hb)
      have N_13 := Lib.hid (N_12.out.ext hb)
      have X_13 := Lib.hid (Sl.of_own ho)
      have B_13 := Lib.hid (B_12.out.trans (hb.mono B_12.out.size))
      clear hb ho K_12 AB_12 R_12 S_12 N_12 B_12
      go_wp2_with fail
      refine (C6.out _ _ X_13.out).mono ?_
      rintro e w14 ⟨vm, rfl, ho, hb⟩
      have AB_14 := Lib.hid (AB_13.out.ext hb)
      have R_14 := Lib.hid (R_13.out.ext hb)
      have S_14 := Lib.hid (S_13.out.ext hb)
      have N_14 := Lib.hid (N_13.out.ext hb)
      have P_14 := Lib.hid (Sl.of_own ho)
      have B_14 := Lib.hid (B_13.out.trans (hb.mono B_13.out.size))
      clear hb ho X_13 AB_13 R_13 S_13 N_13 B_13
      go_wp2_with fail
      refine (C7.out _ _ _ N_14.out P_14.out).mono ?_
      rintro e w15 ⟨vz, rfl, ho, hb⟩
      have AB_15 := Lib.hid (AB_14.out.ext hb)
      have R_15 := Lib.hid (R_14.out.ext hb)
      have S_15 := Lib.hid (S_14.out.ext hb)
      have Z_15 := Lib.hid (Sl.of_own ho)
      have B_15 := Lib.hid (B_14.out.trans (hb.mono B_14.out.size))
      clear hb ho N_14 P_14 AB_14 R_14 S_14 B_14
      go_wp2_with fail
      refine (same_any _ _ R R _ R_15.out S_15.out).mono ?_
      rintro e w16 ⟨rfl, hb⟩
      have AB_16 := Lib.hid (AB_15.out.ext hb)
      have Z_16 := Lib.hid (Z_15.out.ext hb)
      have B_16 := Lib.hid (B_15.out.trans (hb.mono B_15.out.size))
      clear hb R_15 S_15 AB_15 Z_15 B_15
      rw [sameB_refl R]
      go_wp2_with fail
      refine (same_any _ _ AB AB _ Z_16.out AB_16.out).mono ?_
      rintro e w17 ⟨rfl, hb⟩
      have B_17 := Lib.hid (B_16.out.trans (hb.mono B_16.out.size))
      clear hb Z_16 AB_16 B_16
      rw [sameB_refl AB]
      go_wp2_with fail
      refine (known5_any _).mono ?_
      rintro e w18 ⟨rfl, hb⟩
      have B_18 := Lib.hid (B_17.out.trans (hb.mono B_17.out.size))
      clear hb B_17
      go_wp2
      go_ret
      exact ⟨rfl, B_18.out⟩
    · have hb : (cmpE l' l'' != 0) = true := by simpa using h1
      rw [h0] at c1
      generalize cmpR l l' = AB at *
      generalize cmpR l' l'' = BC at *
      generalize cmpE l' l'' = E at *
      have C1 := Lib.hid c1; have C2 := Lib.hid c2
      clear c1 c2 h0 h1 h h' h'' hd hd' hd'' hl hl' hl''
      go_enter Try.func6, Try.ntmps6
      go_wp2_with fail
      refine (cA.out _ _ H.out).mono ?_
      rintro e w1 ⟨x0, rfl, ho, hb⟩
      have H_1 := Lib.hid (H.out.ext hb)
      have K_1 := Lib.hid (K.out.ext hb)
      have M_1 := Lib.hid (M.out.ext hb)
      have X_1 := Lib.hid (Sl.of_own ho)
      have B_1 := Lib.hid hb
      clear hb ho H K M
      go_wp2_with fail
      refine (cB.out _ _ K_1.out).mono ?_
      rintro e w2 ⟨x1, rfl, ho, hb⟩
      have H_2 := Lib.hid (H_1.out.ext hb)
      have K_2 := Lib.hid (K_1.out.ext hb)
      have M_2 := Lib.hid (M_1.out.ext hb)
      have X_2 := Lib.hid (X_1.out.ext hb)
      have Y_2 := Lib.hid (Sl.of_own ho)
      have B_2 := Lib.hid (B_1.out.trans (hb.mono B_1.out.size))
      clear hb ho H_1 K_1 M_1 X_1 B_1
      go_wp2_with fail
      refine (C1.out _ _ _ X_2.out Y_2.out).mono ?_
      rintro e w3 ⟨va, rfl, ho, hb⟩
      have H_3 := Lib.hid (H_2.out.ext hb)
      have K_3 := Lib.hid (K_2.out.ext hb)
      have M_3 := Lib.hid (M_2.out.ext hb)
      have AB_3 := Lib.hid (Sl.of_own ho)
      have B_3 := Lib.hid (B_2.out.trans (hb.mono B_2.out.size))
      clear hb ho X_2 Y_2 H_2 K_2 M_2 B_2
      go_wp2_with fail
      refine (cB.out _ _ K_3.out).mono ?_
      rintro e w4 ⟨x3, rfl, ho, hb⟩
      have H_4 := Lib.hid (H_3.out.ext hb)
      have M_4 := Lib.hid (M_3.out.ext hb)
      have AB_4 := Lib.hid (AB_3.out.ext hb)
      have X_4 := Lib.hid (Sl.of_own ho)
      have B_4 := Lib.hid (B_3.out.trans (hb.mono B_3.out.size))
      clear hb ho K_3 H_3 M_3 AB_3 B_3
      go_wp2_with fail
      refine (cC.out _ _ M_4.out).mono ?_
      rintro e w5 ⟨x4, rfl, ho, hb⟩
      have H_5 := Lib.hid (H_4.out.ext hb)
      have AB_5 := Lib.hid (AB_4.out.ext hb)
      have X_5 := Lib.hid (X_4.out.ext hb)
      have Y_5 := Lib.hid (Sl.of_own ho)
      have B_5 := Lib.hid (B_4.out.trans (hb.mono B_4.out.size))
      clear hb ho M_4 H_4 AB_4 X_4 B_4
      go_wp2_with fail
      refine (C2.out _ _ _ X_5.out Y_5.out).mono ?_
      rintro e w6 ⟨vb, rfl, ho, hb⟩
      have H_6 := Lib.hid (H_5.out.ext hb)
      have AB_6 := Lib.hid (AB_5.out.ext hb)
      have BC_6 := Lib.hid (Sl.of_own ho)
      have B_6 := Lib.hid (B_5.out.trans (hb.mono B_5.out.size))
      clear hb ho X_5 Y_5 H_5 AB_5 B_5
      go_wp2_with fail
      refine (known5_any _).mono ?_
      rintro e w7 ⟨rfl, hb⟩
      have B_7 := Lib.hid (B_6.out.trans (hb.mono B_6.out.size))
      clear hb H_6 AB_6 BC_6 B_6
      go_wp2
      go_ret
      exact ⟨rfl, B_7.out⟩
  · have hb : (cmpE l l' != 0) = true := by simpa using h0
    generalize cmpR l l' = AB at *
    generalize cmpE l l' = E at *
    generalize cmpR l' l'' = BC at *
    generalize cmpE l' l'' = F at *
    have C1 := Lib.hid c1; have C2 := Lib.hid c2
    clear c1 c2 h0 h h' h'' hd hd' hd'' hl hl' hl''
    go_enter Try.func6, Try.ntmps6
    go_wp2_with fail
    refine (cA.out _ _ H.out).mono ?_
    rintro e w1 ⟨x0, rfl, ho, hb⟩
    have H_1 := Lib.hid (H.out.ext hb)
    have K_1 := Lib.hid (K.out.ext hb)
    have M_1 := Lib.hid (M.out.ext hb)
    have X_1 := Lib.hid (Sl.of_own ho)
    have B_1 := Lib.hid hb
    clear hb ho H K M
    go_wp2_with fail
    refine (cB.out _ _ K_1.out).mono ?_
    rintro e w2 ⟨x1, rfl, ho, hb⟩
    have H_2 := Lib.hid (H_1.out.ext hb)
    have K_2 := Lib.hid (K_1.out.ext hb)
    have M_2 := Lib.hid (M_1.out.ext hb)
    have X_2 := Lib.hid (X_1.out.ext hb)
    have Y_2 := Lib.hid (Sl.of_own ho)
    have B_2 := Lib.hid (B_1.out.trans (hb.mono B_1.out.size))
    clear hb ho H_1 K_1 M_1 X_1 B_1
    go_wp2_with fail
    refine (C1.out _ _ _ X_2.out Y_2.out).mono ?_
    rintro e w3 ⟨va, rfl, ho, hb⟩
    have H_3 := Lib.hid (H_2.out.ext hb)
    have K_3 := Lib.hid (K_2.out.ext hb)
    have M_3 := Lib.hid (M_2.out.ext hb)
    have AB_3 := Lib.hid (Sl.of_own ho)
    have B_3 := Lib.hid (B_2.out.trans (hb.mono B_2.out.size))
    clear hb ho X_2 Y_2 H_2 K_2 M_2 B_2
    go_wp2_with fail
    refine (cB.out _ _ K_3.out).mono ?_
    rintro e w4 ⟨x3, rfl, ho, hb⟩
    have H_4 := Lib.hid (H_3.out.ext hb)
    have M_4 := Lib.hid (M_3.out.ext hb)
    have AB_4 := Lib.hid (AB_3.out.ext hb)
    have X_4 := Lib.hid (Sl.of_own ho)
    have B_4 := Lib.hid (B_3.out.trans (hb.mono B_3.out.size))
    clear hb ho K_3 H_3 M_3 AB_3 B_3
    go_wp2_with fail
    refine (cC.out _ _ M_4.out).mono ?_
    rintro e w5 ⟨x4, rfl, ho, hb⟩
    have H_5 := Lib.hid (H_4.out.ext hb)
    have AB_5 := Lib.hid (AB_4.out.ext hb)
    have X_5 := Lib.hid (X_4.out.ext hb)
    have Y_5 := Lib.hid (Sl.of_own ho)
    have B_5 := Lib.hid (B_4.out.trans (hb.mono B_4.out.size))
    clear hb ho M_4 H_4 AB_4 X_4 B_4
    go_wp2_with fail
    refine (C2.out _ _ _ X_5.out Y_5.out).mono ?_
    rintro e w6 ⟨vb, rfl, ho, hb⟩
    have H_6 := Lib.hid (H_5.out.ext hb)
    have AB_6 := Lib.hid (AB_5.out.ext hb)
    have BC_6 := Lib.hid (Sl.of_own ho)
    have B_6 := Lib.hid (B_5.out.trans (hb.mono B_5.out.size))
    clear hb ho X_5 Y_5 H_5 AB_5 B_5
    go_wp2_with fail
    refine (known5_any _).mono ?_
    rintro e w7 ⟨rfl, hb⟩
    have B_7 := Lib.hid (B_6.out.trans (hb.mono B_6.out.size))
    clear hb H_6 AB_6 BC_6 B_6
    go_wp2
    go_ret
    exact ⟨rfl, B_7.out⟩

end Go.Proofs.Ytdlbjfgpfjcpaaa