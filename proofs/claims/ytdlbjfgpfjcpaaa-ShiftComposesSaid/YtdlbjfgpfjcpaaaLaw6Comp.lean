/- quartolaw06.ShiftComposes returns true: the walk. -/
import Derived.Test.YtdlbjfgpfjcpaaaBoth6
import Derived.Test.YtdlbjfgpfjcpaaaKinds6
import Derived.Test.YtdlbjfgpfjcpaaaPlainC3
import Derived.Test.YtdlbjfgpfjcpaaaCompose
namespace Go.Proofs.Ytdlbjfgpfjcpaaa
open Go.RowKit

set_option maxHeartbeats 8000000 in
set_option maxRecDepth 100000 in
theorem lawShiftComposes_any (v : Value) (l : List Pc) (v' : Value) (l' : List Pc) (at_ : Int) (w : World) (h : Sl pcE w v l) (hd : ∀ p, p ∈ l → p.wf) (hl : l.length * 32 ≤ 140737488355328) (h' : Sl pcE w v' l') (hd' : ∀ p, p ∈ l' → p.wf) (hl' : l'.length * 32 ≤ 140737488355328) (_hx : -9223372036854775808 ≤ at_) (_hx' : at_ ≤ 9223372036854775807) :
    Calls Try.prog 11 #[v, v', .int .i64 at_] w fun e w' => e = .returned (.bool true) ∧ Below w.heap.size w w' := by
  have cOA := Lib.hid fun w x h => own6_any x l w h hl
  have cOB := Lib.hid fun w x h => own6_any x l' w h hl'
  have cC := fun w x y h k => compose_any x y l l' w h k hd hd'
  have cL := fun w x h => lengths_any x l w h hd
  have H := Lib.hid h; have K := Lib.hid h'
  by_cases h0 : cmpE l l' = 0
  · obtain ⟨e1, e2, e3, e4⟩ := cmpE_ok h0
    obtain ⟨x1, x2, x3, x4, x5, x6, x7⟩ := cmpR_ok h0
    rw [lensV_fine e1] at cL
    rw [h0] at cC
    by_cases hr : 0 ≤ at_ ∧ at_ ≤ inL l
    · obtain ⟨hr1, hr2⟩ := hr
      have v1 := ((errL_iff l).1 e1).2.1
      have v2 := ((errL_iff l').1 e2).2.1
      have okOf : ∀ {m : List Pc} {x : Int}, errL m = 0 → 0 ≤ x → x ≤ inL m → bothOk m x = true := fun {m x} hm h1 h2 => by
        unfold bothOk posE
        rw [if_pos hm, movE_ok (by omega) (.inl rfl)]
        rfl
      have o1 := okOf x2 hr1 (by rw [x4]; exact hr2)
      have o2 := okOf e1 hr1 hr2
      obtain ⟨-, -, -, p1, p2⟩ := both_vals o1
      obtain ⟨-, -, -, p3, p4⟩ := both_vals o2
      have b1 := left_bd v1 false at_
      have b2 := right_bd v1 false at_
      simp only [ioL, Bool.false_eq_true, if_false] at b1 b2
      have o3 := okOf (x := posV l at_ 0) e2 (by rw [p3]; exact b1.1) (by rw [p3, ← e3]; exact b1.2)
      have o4 := okOf (x := posV l at_ 1) e2 (by rw [p4]; exact b2.1) (by rw [p4, ← e3]; exact b2.2)
      obtain ⟨-, -, -, p5, -⟩ := both_vals o3
      obtain ⟨-, -, -, -, p6⟩ := both_vals o4
      have l1 : posV (cmpR l l') at_ 0 ≤ posV l' (posV l at_ 0) 0 := by rw [p1, p5, p3]; exact cmp_left h0 at_
      have l2 : posV l' (posV l at_ 1) 1 ≤ posV (cmpR l l') at_ 1 := by rw [p2, p6, p4]; exact cmp_right h0 at_
      have l3 : insKB l = false ∨ remKB l' = false → posV (cmpR l l') at_ 0 = posV l' (posV l at_ 0) 0 ∧ posV (cmpR l l') at_ 1 = posV l' (posV l at_ 1) 1 := fun hh => by
        have hz : iN l = 0 ∨ rN l' = 0 := hh.imp insK_ok remK_ok
        rw [p1, p5, p3, p2, p6, p4]
        exact ⟨cmp_left_eq h0 hz at_, cmp_right_eq h0 hz at_⟩
      have wR := wf_of_err x2
      have c1 := fun w x h => both_any x (cmpR l l') at_ w h wR (len32c x2)
      have c2 := fun w x h => both_any x l at_ w h hd hl
      have c3 := fun w x h => both_any x l' (posV l at_ 0) w h hd' hl'
      have c4 := fun w x h => both_any x l' (posV l at_ 1) w h hd' hl'
      rw [o1] at c1
      rw [o2] at c2
      rw [o3] at c3
      rw [o4] at c4
      have cI := Lib.hid fun w x h => inserts_any x l w h
      have cR := Lib.hid fun w x h => removes_any x l' w h
      have d1 : decide (at_ < 0) = false := decide_eq_false (by omega)
      have d2 : decide (inL l < at_) = false := decide_eq_false (by omega)
      generalize posV l' (posV l at_ 0) 0 = u at *
      generalize posV l' (posV l at_ 1) 1 = z at *
      generalize posV l' (posV l at_ 0) 1 = u' at *
      generalize posV l' (posV l at_ 1) 0 = z' at *
      generalize posV (cmpR l l') at_ 0 = L at *
      generalize posV (cmpR l l') at_ 1 = R at *
      generalize posV l at_ 0 = X at *
      generalize posV l at_ 1 = Y at *
      generalize cmpR l l' = C at *
      generalize inL l = I at *
      generalize outL l = O at *
      have d3 : decide (u < L) = false := decide_eq_false (by omega)
      have d4 : decide (R < z) = false := decide_eq_false (by omega)
      have CC := Lib.hid cC; have CL := Lib.hid cL; have C1 := Lib.hid c1; have C2 := Lib.hid c2; have C3 := Lib.hid c3; have C4 := Lib.hid c4
      have HL3 := Lib.hid l3
      clear cC cL c1 c2 c3 c4 l3 o1 o2 o3 o4 p1 p2 p3 p4 p5 p6 b1 b2 okOf v1 v2 wR x1 x2 x3 x4 x5 x6 x7 e1 e2 e3 e4 h0 h h' hd hd' hl hl'
      by_cases hi : insKB l = true
      · rw [hi] at cI
        by_cases hm : remKB l' = true
        · rw [hm] at cR
          clear HL3 hi hm
          go_enter Try.func11, Try.ntmps11
          go_wp2_with fail
          refine (cOA.out _ _ H.out).mono ?_
          rintro e w1 ⟨x0, rfl, ho, hb⟩
          have H_1 := Lib.hid (H.out.ext hb)
          have K_1 := Lib.hid (K.out.ext hb)
          have X_1 := Lib.hid (Sl.of_own ho)
          have B_1 := Lib.hid hb
          clear hb ho H K
          go_wp2_with fail
          refine (cOB.out _ _ K_1.out).mono ?_
          rintro e w2 ⟨x1, rfl, ho, hb⟩
          have H_2 := Lib.hid (H_1.out.ext hb)
          have K_2 := Lib.hid (K_1.out.ext hb)
          have X_2 := Lib.hid (X_1.out.ext hb)
          have Y_2 := Lib.hid (Sl.of_own ho)
          have B_2 := Lib.hid (B_1.out.trans (hb.mono B_1.out.size))
          clear hb ho H_1 K_1 X_1 B_1
          go_wp2_with fail
          refine (CC.out _ _ _ X_2.out Y_2.out).mono ?_
          rintro e w3 ⟨vc, rfl, ho, hb⟩
          have H_3 := Lib.hid (H_2.out.ext hb)
          have K_3 := Lib.hid (K_2.out.ext hb)
          have C_3 := Lib.hid (Sl.of_own ho)
          have B_3 := Lib.hid (B_2.out.trans (hb.mono B_2.out.size))
          clear hb ho X_2 Y_2 H_2 K_2 B_2
          go_wp2_with fail
          refine (cOA.out _ _ H_3.out).mono ?_
          rintro e w4 ⟨x3, rfl, ho, hb⟩
          have H_4 := Lib.hid (H_3.out.ext hb)
          have K_4 := Lib.hid (K_3.out.ext hb)
          have C_4 := Lib.hid (C_3.out.ext hb)
          have X_4 := Lib.hid (Sl.of_own ho)
          have B_4 := Lib.hid (B_3.out.trans (hb.mono B_3.out.size))
          clear hb ho H_3 K_3 C_3 B_3
          go_wp2_with fail
          refine (CL.out _ _ X_4.out).mono ?_
          rintro e w5 ⟨rfl, hb⟩
          have H_5 := Lib.hid (H_4.out.ext hb)
          have K_5 := Lib.hid (K_4.out.ext hb)
          have C_5 := Lib.hid (C_4.out.ext hb)
          have B_5 := Lib.hid (B_4.out.trans (hb.mono B_4.out.size))
          clear hb X_4 H_4 K_4 C_4 B_4
          go_wp2_with fail
          refine (C1.out _ _ C_5.out).mono ?_
          rintro e w6 ⟨rfl, hb⟩
          have H_6 := Lib.hid (H_5.out.ext hb)
          have K_6 := Lib.hid (K_5.out.ext hb)
          have B_6 := Lib.hid (B_5.out.trans (hb.mono B_5.out.size))
          clear hb C_5 H_5 K_5 B_5
          go_wp2_with fail
          refine (C2.out _ _ H_6.out).mono ?_
          rintro e w7 ⟨rfl, hb⟩
          have H_7 := Lib.hid (H_6.out.ext hb)
          have K_7 := Lib.hid (K_6.out.ext hb)
          have B_7 := Lib.hid (B_6.out.trans (hb.mono B_6.out.size))
          clear hb H_6 K_6 B_6
          go_wp2_with fail
          refine (C3.out _ _ K_7.out).mono ?_
          rintro e w8 ⟨rfl, hb⟩
          have H_8 := Lib.hid (H_7.out.ext hb)
          have K_8 := Lib.hid (K_7.out.ext hb)
          have B_8 := Lib.hid (B_7.out.trans (hb.mono B_7.out.size))
          clear hb H_7 K_7 B_7
          go_wp2_with fail
          refine (C4.out _ _ K_8.out).mono ?_
          rintro e w9 ⟨rfl, hb⟩
          have H_9 := Lib.hid (H_8.out.ext hb)
          have K_9 := Lib.hid (K_8.out.ext hb)
          have B_9 := Lib.hid (B_8.out.trans (hb.mono B_8.out.size))
          clear hb H_8 K_8 B_8
          go_wp2_with fail
          refine (cI.out _ _ H_9.out).mono ?_
          rintro e w10 ⟨rfl, hb⟩
          have K_10 := Lib.hid (K_9.out.ext hb)
          have B_10 := Lib.hid (B_9.out.trans (hb.mono B_9.out.size))
          clear hb H_9 K_9 B_9
          go_wp2_with fail
          refine (cR.out _ _ K_10.out).mono ?_
          rintro e w11 ⟨rfl, hb⟩
          have B_11 := Lib.hid (B_10.out.trans (hb.mono B_10.out.size))
          clear hb K_10 B_10
          go_wp2_with fail
          refine (known6_any _).mono ?_
          rintro e w12 ⟨rfl, hb⟩
          have B_12 := Lib.hid (B_11.out.trans (hb.mono B_11.out.size))
          clear hb B_11
          go_wp2
          go_ret
          exact ⟨rfl, B_12.out⟩
        · have hm' : remKB l' = false := by simpa using hm
          rw [hm'] at cR
          obtain ⟨q1, q2⟩ := HL3.out (.inr hm')
          subst q1 q2
          clear HL3 hi hm hm'
          go_enter Try.func11, Try.ntmps11
          go_wp2_with fail
          refine (cOA.out _ _ H.out).mono ?_
          rintro e w1 ⟨x0, rfl, ho, hb⟩
          have H_1 := Lib.hid (H.out.ext hb)
          have K_1 := Lib.hid (K.out.ext hb)
          have X_1 := Lib.hid (Sl.of_own ho)
          have B_1 := Lib.hid hb
          clear hb ho H K
          go_wp2_with fail
          refine (cOB.out _ _ K_1.out).mono ?_
          rintro e w2 ⟨x1, rfl, ho, hb⟩
          have H_2 := Lib.hid (H_1.out.ext hb)
          have K_2 := Lib.hid (K_1.out.ext hb)
          have X_2 := Lib.hid (X_1.out.ext hb)
          have Y_2 := Lib.hid (Sl.of_own ho)
          have B_2 := Lib.hid (B_1.out.trans (hb.mono B_1.out.size))
          clear hb ho H_1 K_1 X_1 B_1
          go_wp2_with fail
          refine (CC.out _ _ _ X_2.out Y_2.out).mono ?_
          rintro e w3 ⟨vc, rfl, ho, hb⟩
          have H_3 := Lib.hid (H_2.out.ext hb)
          have K_3 := Lib.hid (K_2.out.ext hb)
          have C_3 := Lib.hid (Sl.of_own ho)
          have B_3 := Lib.hid (B_2.out.trans (hb.mono B_2.out.size))
          clear hb ho X_2 Y_2 H_2 K_2 B_2
          go_wp2_with fail
          refine (cOA.out _ _ H_3.out).mono ?_
          rintro e w4 ⟨x3, rfl, ho, hb⟩
          have H_4 := Lib.hid (H_3.out.ext hb)
          have K_4 := Lib.hid (K_3.out.ext hb)
          have C_4 := Lib.hid (C_3.out.ext hb)
          have X_4 := Lib.hid (Sl.of_own ho)
          have B_4 := Lib.hid (B_3.out.trans (hb.mono B_3.out.size))
          clear hb ho H_3 K_3 C_3 B_3
          go_wp2_with fail
          refine (CL.out _ _ X_4.out).mono ?_
          rintro e w5 ⟨rfl, hb⟩
          have H_5 := Lib.hid (H_4.out.ext hb)
          have K_5 := Lib.hid (K_4.out.ext hb)
          have C_5 := Lib.hid (C_4.out.ext hb)
          have B_5 := Lib.hid (B_4.out.trans (hb.mono B_4.out.size))
          clear hb X_4 H_4 K_4 C_4 B_4
          go_wp2_with fail
          refine (C1.out _ _ C_5.out).mono ?_
          rintro e w6 ⟨rfl, hb⟩
          have H_6 := Lib.hid (H_5.out.ext hb)
          have K_6 := Lib.hid (K_5.out.ext hb)
          have B_6 := Lib.hid (B_5.out.trans (hb.mono B_5.out.size))
          clear hb C_5 H_5 K_5 B_5
          go_wp2_with fail
          refine (C2.out _ _ H_6.out).mono ?_
          rintro e w7 ⟨rfl, hb⟩
          have H_7 := Lib.hid (H_6.out.ext hb)
          have K_7 := Lib.hid (K_6.out.ext hb)
          have B_7 := Lib.hid (B_6.out.trans (hb.mono B_6.out.size))
          clear hb H_6 K_6 B_6
          go_wp2_with fail
          refine (C3.out _ _ K_7.out).mono ?_
          rintro e w8 ⟨rfl, hb⟩
          have H_8 := Lib.hid (H_7.out.ext hb)
          have K_8 := Lib.hid (K_7.out.ext hb)
          have B_8 := Lib.hid (B_7.out.trans (hb.mono B_7.out.size))
          clear hb H_7 K_7 B_7
          go_wp2_with fail
          refine (C4.out _ _ K_8.out).mono ?_
          rintro e w9 ⟨rfl, hb⟩
          have H_9 := Lib.hid (H_8.out.ext hb)
          have K_9 := Lib.hid (K_8.out.ext hb)
          have B_9 := Lib.hid (B_8.out.trans (hb.mono B_8.out.size))
          clear hb H_8 K_8 B_8
          go_wp2_with fail
          refine (cI.out _ _ H_9.out).mono ?_
          rintro e w10 ⟨rfl, hb⟩
          have K_10 := Lib.hid (K_9.out.ext hb)
          have B_10 := Lib.hid (B_9.out.trans (hb.mono B_9.out.size))
          clear hb H_9 K_9 B_9
          go_wp2_with fail
          refine (cR.out _ _ K_10.out).mono ?_
          rintro e w11 ⟨rfl, hb⟩
          have B_11 := Lib.hid (B_10.out.trans (hb.mono B_10.out.size))
          clear hb K_10 B_10
          go_wp2_with fail
          refine (known6_any _).mono ?_
          rintro e w12 ⟨rfl, hb⟩
          have B_12 := Lib.hid (B_11.out.trans (hb.mono B_11.out.size))
          clear hb B_11
          go_wp2
          go_ret
          exact ⟨rfl, B_12.out⟩
      · have hi' : insKB l = false := by simpa using hi
        rw [hi'] at cI
        obtain ⟨q1, q2⟩ := HL3.out (.inl hi')
        subst q1 q2
        clear HL3 hi hi'
        go_enter Try.func11, Try.ntmps11
        go_wp2_with fail
        refine (cOA.out _ _ H.out).mono ?_
        rintro e w1 ⟨x0, rfl, ho, hb⟩
        have H_1 := Lib.hid (H.out.ext hb)
        have K_1 := Lib.hid (K.out.ext hb)
        have X_1 := Lib.hid (Sl.of_own ho)
        have B_1 := Lib.hid hb
        clear hb ho H K
        go_wp2_with fail
        refine (cOB.out _ _ K_1.out).mono ?_
        rintro e w2 ⟨x1, rfl, ho, hb⟩
        have H_2 := Lib.hid (H_1.out.ext hb)
        have K_2 := Lib.hid (K_1.out.ext hb)
        have X_2 := Lib.hid (X_1.out.ext hb)
        have Y_2 := Lib.hid (Sl.of_own ho)
        have B_2 := Lib.hid (B_1.out.trans (hb.mono B_1.out.size))
        clear hb ho H_1 K_1 X_1 B_1
        go_wp2_with fail
        refine (CC.out _ _ _ X_2.out Y_2.out).mono ?_
        rintro e w3 ⟨vc, rfl, ho, hb⟩
        have H_3 := Lib.hid (H_2.out.ext hb)
        have K_3 := Lib.hid (K_2.out.ext hb)
        have C_3 := Lib.hid (Sl.of_own ho)
        have B_3 := Lib.hid (B_2.out.trans (hb.mono B_2.out.size))
        clear hb ho X_2 Y_2 H_2 K_2 B_2
        go_wp2_with fail
        refine (cOA.out _ _ H_3.out).mono ?_
        rintro e w4 ⟨x3, rfl, ho, hb⟩
        have H_4 := Lib.hid (H_3.out.ext hb)
        have K_4 := Lib.hid (K_3.out.ext hb)
        have C_4 := Lib.hid (C_3.out.ext hb)
        have X_4 := Lib.hid (Sl.of_own ho)
        have B_4 := Lib.hid (B_3.out.trans (hb.mono B_3.out.size))
        clear hb ho H_3 K_3 C_3 B_3
        go_wp2_with fail
        refine (CL.out _ _ X_4.out).mono ?_
        rintro e w5 ⟨rfl, hb⟩
        have H_5 := Lib.hid (H_4.out.ext hb)
        have K_5 := Lib.hid (K_4.out.ext hb)
        have C_5 := Lib.hid (C_4.out.ext hb)
        have B_5 := Lib.hid (B_4.out.trans (hb.mono B_4.out.size))
        clear hb X_4 H_4 K_4 C_4 B_4
        go_wp2_with fail
        refine (C1.out _ _ C_5.out).mono ?_
        rintro e w6 ⟨rfl, hb⟩
        have H_6 := Lib.hid (H_5.out.ext hb)
        have K_6 := Lib.hid (K_5.out.ext hb)
        have B_6 := Lib.hid (B_5.out.trans (hb.mono B_5.out.size))
        clear hb C_5 H_5 K_5 B_5
        go_wp2_with fail
        refine (C2.out _ _ H_6.out).mono ?_
        rintro e w7 ⟨rfl, hb⟩
        have H_7 := Lib.hid (H_6.out.ext hb)
        have K_7 := Lib.hid (K_6.out.ext hb)
        have B_7 := Lib.hid (B_6.out.trans (hb.mono B_6.out.size))
        clear hb H_6 K_6 B_6
        go_wp2_with fail
        refine (C3.out _ _ K_7.out).mono ?_
        rintro e w8 ⟨rfl, hb⟩
        have H_8 := Lib.hid (H_7.out.ext hb)
        have K_8 := Lib.hid (K_7.out.ext hb)
        have B_8 := Lib.hid (B_7.out.trans (hb.mono B_7.out.size))
        clear hb H_7 K_7 B_7
        go_wp2_with fail
        refine (C4.out _ _ K_8.out).mono ?_
        rintro e w9 ⟨rfl, hb⟩
        have H_9 := Lib.hid (H_8.out.ext hb)
        have K_9 := Lib.hid (K_8.out.ext hb)
        have B_9 := Lib.hid (B_8.out.trans (hb.mono B_8.out.size))
        clear hb H_8 K_8 B_8
        go_wp2_with fail
        refine (cI.out _ _ H_9.out).mono ?_
        rintro e w10 ⟨rfl, hb⟩
        have B_10 := Lib.hid (B_9.out.trans (hb.mono B_9.out.size))
        clear hb H_9 K_9 B_9
        go_wp2_with fail
        refine (known6_any _).mono ?_
        rintro e w11 ⟨rfl, hb⟩
        have B_11 := Lib.hid (B_10.out.trans (hb.mono B_10.out.size))
        clear hb B_10
        go_wp2
        go_ret
        exact ⟨rfl, B_11.out⟩
    · generalize cmpR l l' = C at *
      generalize inL l = I at *
      generalize outL l = O at *
      have CC := Lib.hid cC; have CL := Lib.hid cL
      clear cC cL x1 x2 x3 x4 x5 x6 x7 e1 e2 e3 e4 h0 h h' hd hd' hl hl'
      by_cases hn : at_ < 0
      · have d1 : decide (at_ < 0) = true := decide_eq_true hn
        clear hr hn
        go_enter Try.func11, Try.ntmps11
        go_wp2_with fail
        refine (cOA.out _ _ H.out).mono ?_
        rintro e w1 ⟨x0, rfl, ho, hb⟩
        have H_1 := Lib.hid (H.out.ext hb)
        have K_1 := Lib.hid (K.out.ext hb)
        have X_1 := Lib.hid (Sl.of_own ho)
        have B_1 := Lib.hid hb
        clear hb ho H K
        go_wp2_with fail
        refine (cOB.out _ _ K_1.out).mono ?_
        rintro e w2 ⟨x1, rfl, ho, hb⟩
        have H_2 := Lib.hid (H_1.out.ext hb)
        have X_2 := Lib.hid (X_1.out.ext hb)
        have Y_2 := Lib.hid (Sl.of_own ho)
        have B_2 := Lib.hid (B_1.out.trans (hb.mono B_1.out.size))
        clear hb ho K_1 H_1 X_1 B_1
        go_wp2_with fail
        refine (CC.out _ _ _ X_2.out Y_2.out).mono ?_
        rintro e w3 ⟨vc, rfl, ho, hb⟩
        have H_3 := Lib.hid (H_2.out.ext hb)
        have C_3 := Lib.hid (Sl.of_own ho)
        have B_3 := Lib.hid (B_2.out.trans (hb.mono B_2.out.size))
        clear hb ho X_2 Y_2 H_2 B_2
        go_wp2_with fail
        refine (cOA.out _ _ H_3.out).mono ?_
        rintro e w4 ⟨x3, rfl, ho, hb⟩
        have C_4 := Lib.hid (C_3.out.ext hb)
        have X_4 := Lib.hid (Sl.of_own ho)
        have B_4 := Lib.hid (B_3.out.trans (hb.mono B_3.out.size))
        clear hb ho H_3 C_3 B_3
        go_wp2_with fail
        refine (CL.out _ _ X_4.out).mono ?_
        rintro e w5 ⟨rfl, hb⟩
        have C_5 := Lib.hid (C_4.out.ext hb)
        have B_5 := Lib.hid (B_4.out.trans (hb.mono B_4.out.size))
        clear hb X_4 C_4 B_4
        go_wp2_with fail
        refine (known6_any _).mono ?_
        rintro e w6 ⟨rfl, hb⟩
        have B_6 := Lib.hid (B_5.out.trans (hb.mono B_5.out.size))
        clear hb C_5 B_5
        go_wp2
        go_ret
        exact ⟨rfl, B_6.out⟩
      · have d1 : decide (at_ < 0) = false := decide_eq_false hn
        have d2 : decide (I < at_) = true := decide_eq_true (by omega)
        clear hr hn
        go_enter Try.func11, Try.ntmps11
        go_wp2_with fail
        refine (cOA.out _ _ H.out).mono ?_
        rintro e w1 ⟨x0, rfl, ho, hb⟩
        have H_1 := Lib.hid (H.out.ext hb)
        have K_1 := Lib.hid (K.out.ext hb)
        have X_1 := Lib.hid (Sl.of_own ho)
        have B_1 := Lib.hid hb
        clear hb ho H K
        go_wp2_with fail
        refine (cOB.out _ _ K_1.out).mono ?_
        rintro e w2 ⟨x1, rfl, ho, hb⟩
        have H_2 := Lib.hid (H_1.out.ext hb)
        have X_2 := Lib.hid (X_1.out.ext hb)
        have Y_2 := Lib.hid (Sl.of_own ho)
        have B_2 := Lib.hid (B_1.out.trans (hb.mono B_1.out.size))
        clear hb ho K_1 H_1 X_1 B_1
        go_wp2_with fail
        refine (CC.out _ _ _ X_2.out Y_2.out).mono ?_
        rintro e w3 ⟨vc, rfl, ho, hb⟩
        have H_3 := Lib.hid (H_2.out.ext hb)
        have C_3 := Lib.hid (Sl.of_own ho)
        have B_3 := Lib.hid (B_2.out.trans (hb.mono B_2.out.size))
        clear hb ho X_2 Y_2 H_2 B_2
        go_wp2_with fail
        refine (cOA.out _ _ H_3.out).mono ?_
        rintro e w4 ⟨x3, rfl, ho, hb⟩
        have C_4 := Lib.hid (C_3.out.ext hb)
        have X_4 := Lib.hid (Sl.of_own ho)
        have B_4 := Lib.hid (B_3.out.trans (hb.mono B_3.out.size))
        clear hb ho H_3 C_3 B_3
        go_wp2_with fail
        refine (CL.out _ _ X_4.out).mono ?_
        rintro e w5 ⟨rfl, hb⟩
        have C_5 := Lib.hid (C_4.out.ext hb)
        have B_5 := Lib.hid (B_4.out.trans (hb.mono B_4.out.size))
        clear hb X_4 C_4 B_4
        go_wp2_with fail
        refine (known6_any _).mono ?_
        rintro e w6 ⟨rfl, hb⟩
        have B_6 := Lib.hid (B_5.out.trans (hb.mono B_5.out.size))
        clear hb C_5 B_5
        go_wp2
        go_ret
        exact ⟨rfl, B_6.out⟩
  · have hb : (cmpE l l' != 0) = true := by simpa using h0
    unfold lensV at cL
    generalize cmpR l l' = C at *
    generalize cmpE l l' = E at *
    generalize (lens l).1 = q1 at *
    generalize (lens l).2.1 = q2 at *
    generalize (lens l).2.2 = q3 at *
    have CC := Lib.hid cC; have CL := Lib.hid cL
    clear cC cL h0 h h' hd hd' hl hl'
    go_enter Try.func11, Try.ntmps11
    go_wp2_with fail
    refine (cOA.out _ _ H.out).mono ?_
    rintro e w1 ⟨x0, rfl, ho, hb⟩
    have H_1 := Lib.hid (H.out.ext hb)
    have K_1 := Lib.hid (K.out.ext hb)
    have X_1 := Lib.hid (Sl.of_own ho)
    have B_1 := Lib.hid hb
    clear hb ho H K
    go_wp2_with fail
    refine (cOB.out _ _ K_1.out).mono ?_
    rintro e w2 ⟨x1, rfl, ho, hb⟩
    have H_2 := Lib.hid (H_1.out.ext hb)
    have X_2 := Lib.hid (X_1.out.ext hb)
    have Y_2 := Lib.hid (Sl.of_own ho)
    have B_2 := Lib.hid (B_1.out.trans (hb.mono B_1.out.size))
    clear hb ho K_1 H_1 X_1 B_1
    go_wp2_with fail
    refine (CC.out _ _ _ X_2.out Y_2.out).mono ?_
    rintro e w3 ⟨vc, rfl, ho, hb⟩
    have H_3 := Lib.hid (H_2.out.ext hb)
    have C_3 := Lib.hid (Sl.of_own ho)
    have B_3 := Lib.hid (B_2.out.trans (hb.mono B_2.out.size))
    clear hb ho X_2 Y_2 H_2 B_2
    go_wp2_with fail
    refine (cOA.out _ _ H_3.out).mono ?_
    rintro e w4 ⟨x3, rfl, ho, hb⟩
    have C_4 := Lib.hid (C_3.out.ext hb)
    have X_4 := Lib.hid (Sl.of_own ho)
    have B_4 := Lib.hid (B_3.out.trans (hb.mono B_3.out.size))
    clear hb ho H_3 C_3 B_3
    go_wp2_with fail
    refine (CL.out _ _ X_4.out).mono ?_
    rintro e w5 ⟨rfl, hb⟩
    have C_5 := Lib.hid (C_4.out.ext hb)
    have B_5 := Lib.hid (B_4.out.trans (hb.mono B_4.out.size))
    clear hb X_4 C_4 B_4
    go_wp2_with fail
    refine (known6_any _).mono ?_
    rintro e w6 ⟨rfl, hb⟩
    have B_6 := Lib.hid (B_5.out.trans (hb.mono B_5.out.size))
    clear hb C_5 B_5
    go_wp2
    go_ret
    exact ⟨rfl, B_6.out⟩

end Go.Proofs.Ytdlbjfgpfjcpaaa