/- quartolaw07.TransformBases returns true: the walk. -/
import Derived.Test.YtdlbjfgpfjcpaaaKnown7
import Derived.Test.YtdlbjfgpfjcpaaaLone7
import Derived.Test.YtdlbjfgpfjcpaaaCompose
namespace Go.Proofs.Ytdlbjfgpfjcpaaa
open Go.RowKit

set_option maxHeartbeats 8000000 in
set_option maxRecDepth 100000 in
theorem lawTransformBases_any (v : Value) (l : List Pc) (v' : Value) (l' : List Pc) (v'' : Value) (l'' : List Pc) (w : World) (h : Sl pcE w v l) (hd : ∀ p, p ∈ l → p.wf) (hl : l.length * 32 ≤ 140737488355328) (h' : Sl pcE w v' l') (hd' : ∀ p, p ∈ l' → p.wf) (hl' : l'.length * 32 ≤ 140737488355328) (h'' : Sl pcE w v'' l'') (hd'' : ∀ p, p ∈ l'' → p.wf) (hl'' : l''.length * 32 ≤ 140737488355328) :
    Calls Try.prog 18 #[v, v', v''] w fun e w' => e = .returned (.bool true) ∧ Below w.heap.size w w' := by
  have cA := Lib.hid fun w x h => own7_any x l w h hl
  have cB := Lib.hid fun w x h => own7_any x l' w h hl'
  have cC := Lib.hid fun w x h => own7_any x l'' w h hl''
  have mem2 : ∀ m ∈ [l', l''], ∀ p, p ∈ m → p.wf := fun m hm => by
    rcases List.mem_cons.1 hm with rfl | hm
    · exact hd'
    · rw [List.mem_singleton.1 hm]; exact hd''
  have mem1 : ∀ {y : List Pc}, (∀ p, p ∈ y → p.wf) → ∀ m ∈ [y], ∀ p, p ∈ m → p.wf := fun hy m hm => by rw [List.mem_singleton.1 hm]; exact hy
  have c1 := fun w x y h k => rebase_any x l y [l', l''] w h hd k mem2 (by simp)
  have c2 := fun w x y h k => rebase_any x l y [l'] w h hd k (mem1 hd') (by simp)
  have H := Lib.hid h; have K := Lib.hid h'; have M := Lib.hid h''
  by_cases h0 : rebE l [l'] = 0
  · obtain ⟨f1, f2⟩ := reb_fine h0
    obtain ⟨s1, s2⟩ := reb_step [l''] h0
    have c3 := fun w x y h k => rebase_any x (rebR l [l']) y [l''] w h (wf_err f1) k (mem1 hd'') (by simp)
    rw [← s1, ← s2] at c3
    rw [show [l'] ++ [l''] = [l', l''] from rfl] at c3
    rw [h0] at c2
    have c4 := fun w x y h k => compose_any x y l' l'' w h k hd' hd''
    by_cases h1 : rebE l [l', l''] = 0
    · rw [h1] at c1 c3
      by_cases h2 : cmpE l' l'' = 0
      · rw [h2] at c4
        have el := reb_err h1
        have vl := ((errL_iff l).1 el).2.1
        obtain ⟨e1, e2, e3, e4⟩ := cmpE_ok h2
        have vx := ((errL_iff _).1 e1).2.1
        have vy := ((errL_iff _).1 e2).2.1
        have c5 := fun w x y h k => rebase_any x l y [cmpR l' l''] w h hd k (mem1 (wf_err (cmpR_ok h2).2.1)) (by simp)
        have key : (iN l = 0 ∨ (rN l = 0 ∧ (iN l' = 0 ∨ rN l'' = 0))) → rebE l [cmpR l' l''] = 0 ∧ rebR l [cmpR l' l''] = rebR l [l', l''] := fun hz => reb_bases h1 h2 hz
        have k1 : loneB l 2 = true ↔ iN l = 0 := loneB_iff.trans (iN_zero vl).symm
        have k2 : loneB l 3 = true ↔ rN l = 0 := loneB_iff.trans (rN_zero vl).symm
        have k3 : loneB l' 2 = true ↔ iN l' = 0 := loneB_iff.trans (iN_zero vx).symm
        have k4 : loneB l'' 3 = true ↔ rN l'' = 0 := loneB_iff.trans (rN_zero vy).symm
        have d1 := fun w h => lone7_any v l 2 w h
        have d2 := fun w h => lone7_any v l 3 w h
        have d3 := fun w h => lone7_any v' l' 2 w h
        have d4 := fun w h => lone7_any v'' l'' 3 w h
        clear el vl e1 e2 e3 e4 vx vy
        cases hf1 : loneB l 2 with
        | true =>
          rw [hf1] at d1
          obtain ⟨q1, q2⟩ := key (.inl (k1.1 hf1))
          rw [q1, q2] at c5
          generalize rebR l [l', l''] = R at *
          generalize rebR l [l'] = RB at *
          generalize cmpR l' l'' = Z at *
          have C1 := Lib.hid c1; have C2 := Lib.hid c2; have C3 := Lib.hid c3; have C4 := Lib.hid c4; have C5 := Lib.hid c5
          have D1 := Lib.hid d1
          clear c1 c2 c3 c4 c5 mem1 mem2 f1 f2 s1 s2 h0 h1 h2 h h' h'' hd hd' hd'' hl hl' hl'' key k1 k2 k3 k4 d1 d2 d3 d4 q1 q2
          go_enter Try.func18, Try.ntmps18
          go_wp2_with fail
          refine (cA.out _ _ H.out).mono ?_
          rintro e w1 ⟨x0, rfl, ho, hb⟩
          have H_1 := Lib.hid (H.out.ext hb)
          have K_1 := Lib.hid (K.out.ext hb)
          have M_1 := Lib.hid (M.out.ext hb)
          have D_1 := Lib.hid (Sl.of_own ho)
          have B_1 := Lib.hid hb
          clear hb ho H K M
          obtain ⟨A0, c0, hv0, -, -, -⟩ := id D_1.out
          subst hv0
          go_wp2_with fail
          refine (cB.out _ _ K_1.out).mono ?_
          rintro e w2 ⟨x1, rfl, ho, hb⟩
          have H_2 := Lib.hid (H_1.out.ext hb)
          have K_2 := Lib.hid (K_1.out.ext hb)
          have M_2 := Lib.hid (M_1.out.ext hb)
          have D_2 := Lib.hid (D_1.out.ext hb)
          have X_2 := Lib.hid (Sl.of_own ho)
          have B_2 := Lib.hid (B_1.out.trans (hb.mono B_1.out.size))
          clear hb ho H_1 K_1 M_1 D_1 B_1
          obtain ⟨A1, c1, hv1, -, -, -⟩ := id X_2.out
          subst hv1
          go_wp2_with fail
          refine (cC.out _ _ M_2.out).mono ?_
          rintro e w3 ⟨x2, rfl, ho, hb⟩
          have H_3 := Lib.hid (H_2.out.ext hb)
          have K_3 := Lib.hid (K_2.out.ext hb)
          have M_3 := Lib.hid (M_2.out.ext hb)
          have D_3 := Lib.hid (D_2.out.ext hb)
          have X_3 := Lib.hid (X_2.out.ext hb)
          have Y_3 := Lib.hid (Sl.of_own ho)
          have B_3 := Lib.hid (B_2.out.trans (hb.mono B_2.out.size))
          clear hb ho H_2 K_2 M_2 D_2 X_2 B_2
          obtain ⟨A2, c2, hv2, -, -, -⟩ := id Y_3.out
          subst hv2
          have SL := Lib.hid (sll_two 22 X_3.out Y_3.out)
          have H_3a := Lib.hid (H_3.out.alloc (.cells #[.slice A1 l'.length c1, .slice A2 l''.length c2] 22))
          have K_3a := Lib.hid (K_3.out.alloc (.cells #[.slice A1 l'.length c1, .slice A2 l''.length c2] 22))
          have M_3a := Lib.hid (M_3.out.alloc (.cells #[.slice A1 l'.length c1, .slice A2 l''.length c2] 22))
          have D_3a := Lib.hid (D_3.out.alloc (.cells #[.slice A1 l'.length c1, .slice A2 l''.length c2] 22))
          have X_3a := Lib.hid (X_3.out.alloc (.cells #[.slice A1 l'.length c1, .slice A2 l''.length c2] 22))
          have Y_3a := Lib.hid (Y_3.out.alloc (.cells #[.slice A1 l'.length c1, .slice A2 l''.length c2] 22))
          have B_3a := Lib.hid (B_3.out.alloc B_3.out.size (.cells #[.slice A1 l'.length c1, .slice A2 l''.length c2] 22))
          clear H_3 K_3 M_3 D_3 X_3 Y_3 B_3
          go_wp2_with fail
          refine (C1.out _ _ _ D_3a.out SL.out).mono ?_
          rintro e w4 ⟨va, rfl, ho, hb⟩
          have H_4 := Lib.hid (H_3a.out.ext hb)
          have K_4 := Lib.hid (K_3a.out.ext hb)
          have M_4 := Lib.hid (M_3a.out.ext hb)
          have A_4 := Lib.hid (Sl.of_own ho)
          have B_4 := Lib.hid (B_3a.out.trans (hb.mono B_3a.out.size))
          clear hb ho D_3a X_3a Y_3a H_3a K_3a M_3a B_3a
          obtain ⟨AA, cA_, hvA, -, -, -⟩ := id A_4.out
          subst hvA
          clear SL
          go_wp2_with fail
          refine (cA.out _ _ H_4.out).mono ?_
          rintro e w5 ⟨x4, rfl, ho, hb⟩
          have H_5 := Lib.hid (H_4.out.ext hb)
          have K_5 := Lib.hid (K_4.out.ext hb)
          have M_5 := Lib.hid (M_4.out.ext hb)
          have A_5 := Lib.hid (A_4.out.ext hb)
          have D_5 := Lib.hid (Sl.of_own ho)
          have B_5 := Lib.hid (B_4.out.trans (hb.mono B_4.out.size))
          clear hb ho H_4 K_4 M_4 A_4 B_4
          obtain ⟨A4, c4, hv4, -, -, -⟩ := id D_5.out
          subst hv4
          go_wp2_with fail
          refine (cB.out _ _ K_5.out).mono ?_
          rintro e w6 ⟨x5, rfl, ho, hb⟩
          have H_6 := Lib.hid (H_5.out.ext hb)
          have K_6 := Lib.hid (K_5.out.ext hb)
          have M_6 := Lib.hid (M_5.out.ext hb)
          have A_6 := Lib.hid (A_5.out.ext hb)
          have D_6 := Lib.hid (D_5.out.ext hb)
          have X_6 := Lib.hid (Sl.of_own ho)
          have B_6 := Lib.hid (B_5.out.trans (hb.mono B_5.out.size))
          clear hb ho H_5 K_5 M_5 A_5 D_5 B_5
          obtain ⟨A5, c5, hv5, -, -, -⟩ := id X_6.out
          subst hv5
          have SL := Lib.hid (sll_one 22 X_6.out)
          have H_6a := Lib.hid (H_6.out.alloc (.cells #[.slice A5 l'.length c5] 22))
          have K_6a := Lib.hid (K_6.out.alloc (.cells #[.slice A5 l'.length c5] 22))
          have M_6a := Lib.hid (M_6.out.alloc (.cells #[.slice A5 l'.length c5] 22))
          have A_6a := Lib.hid (A_6.out.alloc (.cells #[.slice A5 l'.length c5] 22))
          have D_6a := Lib.hid (D_6.out.alloc (.cells #[.slice A5 l'.length c5] 22))
          have X_6a := Lib.hid (X_6.out.alloc (.cells #[.slice A5 l'.length c5] 22))
          have B_6a := Lib.hid (B_6.out.alloc B_6.out.size (.cells #[.slice A5 l'.length c5] 22))
          clear H_6 K_6 M_6 A_6 D_6 X_6 B_6
          go_wp2_with fail
          refine (C2.out _ _ _ D_6a.out SL.out).mono ?_
          rintro e w7 ⟨vb, rfl, ho, hb⟩
          have H_7 := Lib.hid (H_6a.out.ext hb)
          have K_7 := Lib.hid (K_6a.out.ext hb)
          have M_7 := Lib.hid (M_6a.out.ext hb)
          have A_7 := Lib.hid (A_6a.out.ext hb)
          have Bb_7 := Lib.hid (Sl.of_own ho)
          have B_7 := Lib.hid (B_6a.out.trans (hb.mono B_6a.out.size))
          clear hb ho D_6a X_6a H_6a K_6a M_6a A_6a B_6a
          clear SL
          go_wp2_with fail
          refine (cC.out _ _ M_7.out).mono ?_
          rintro e w8 ⟨x7, rfl, ho, hb⟩
          have H_8 := Lib.hid (H_7.out.ext hb)
          have K_8 := Lib.hid (K_7.out.ext hb)
          have M_8 := Lib.hid (M_7.out.ext hb)
          have A_8 := Lib.hid (A_7.out.ext hb)
          have Bb_8 := Lib.hid (Bb_7.out.ext hb)
          have Y_8 := Lib.hid (Sl.of_own ho)
          have B_8 := Lib.hid (B_7.out.trans (hb.mono B_7.out.size))
          clear hb ho H_7 K_7 M_7 A_7 Bb_7 B_7
          obtain ⟨A7, c7, hv7, -, -, -⟩ := id Y_8.out
          subst hv7
          have SL := Lib.hid (sll_one 22 Y_8.out)
          have H_8a := Lib.hid (H_8.out.alloc (.cells #[.slice A7 l''.length c7] 22))
          have K_8a := Lib.hid (K_8.out.alloc (.cells #[.slice A7 l''.length c7] 22))
          have M_8a := Lib.hid (M_8.out.alloc (.cells #[.slice A7 l''.length c7] 22))
          have A_8a := Lib.hid (A_8.out.alloc (.cells #[.slice A7 l''.length c7] 22))
          have Bb_8a := Lib.hid (Bb_8.out.alloc (.cells #[.slice A7 l''.length c7] 22))
          have Y_8a := Lib.hid (Y_8.out.alloc (.cells #[.slice A7 l''.length c7] 22))
          have B_8a := Lib.hid (B_8.out.alloc B_8.out.size (.cells #[.slice A7 l''.length c7] 22))
          clear H_8 K_8 M_8 A_8 Bb_8 Y_8 B_8
          go_wp2_with fail
          refine (C3.out _ _ _ Bb_8a.out SL.out).mono ?_
          rintro e w9 ⟨vc, rfl, ho, hb⟩
          have H_9 := Lib.hid (H_8a.out.ext hb)
          have K_9 := Lib.hid (K_8a.out.ext hb)
          have M_9 := Lib.hid (M_8a.out.ext hb)
          have A_9 := Lib.hid (A_8a.out.ext hb)
          have C_9 := Lib.hid (Sl.of_own ho)
          have B_9 := Lib.hid (B_8a.out.trans (hb.mono B_8a.out.size))
          clear hb ho Bb_8a Y_8a H_8a K_8a M_8a A_8a B_8a
          clear SL
          go_wp2_with fail
          refine (same_any _ _ R R _ A_9.out C_9.out).mono ?_
          rintro e w10 ⟨rfl, hb⟩
          have H_10 := Lib.hid (H_9.out.ext hb)
          have K_10 := Lib.hid (K_9.out.ext hb)
          have M_10 := Lib.hid (M_9.out.ext hb)
          have A_10 := Lib.hid (A_9.out.ext hb)
          have B_10 := Lib.hid (B_9.out.trans (hb.mono B_9.out.size))
          clear hb C_9 H_9 K_9 M_9 A_9 B_9
          rw [sameB_refl R]
          go_wp2_with fail
          refine (cB.out _ _ K_10.out).mono ?_
          rintro e w11 ⟨x10, rfl, ho, hb⟩
          have H_11 := Lib.hid (H_10.out.ext hb)
          have K_11 := Lib.hid (K_10.out.ext hb)
          have M_11 := Lib.hid (M_10.out.ext hb)
          have A_11 := Lib.hid (A_10.out.ext hb)
          have X_11 := Lib.hid (Sl.of_own ho)
          have B_11 := Lib.hid (B_10.out.trans (hb.mono B_10.out.size))
          clear hb ho H_10 K_10 M_10 A_10 B_10
          obtain ⟨A10, c10, hv10, -, -, -⟩ := id X_11.out
          subst hv10
          go_wp2_with fail
          refine (cC.out _ _ M_11.out).mono ?_
          rintro e w12 ⟨x11, rfl, ho, hb⟩
          have H_12 := Lib.hid (H_11.out.ext hb)
          have K_12 := Lib.hid (K_11.out.ext hb)
          have M_12 := Lib.hid (M_11.out.ext hb)
          have A_12 := Lib.hid (A_11.out.ext hb)
          have X_12 := Lib.hid (X_11.out.ext hb)
          have Y_12 := Lib.hid (Sl.of_own ho)
          have B_12 := Lib.hid (B_11.out.trans (hb.mono B_11.out.size))
          clear hb ho H_11 K_11 M_11 A_11 X_11 B_11
          obtain ⟨A11, c11, hv11, -, -, -⟩ := id Y_12.out
          subst hv11
          go_wp2_with fail
          refine (C4.out _ _ _ X_12.out Y_12.out).mono ?_
          rintro e w13 ⟨vz, rfl, ho, hb⟩
          have H_13 := Lib.hid (H_12.out.ext hb)
          have K_13 := Lib.hid (K_12.out.ext hb)
          have M_13 := Lib.hid (M_12.out.ext hb)
          have A_13 := Lib.hid (A_12.out.ext hb)
          have Z_13 := Lib.hid (Sl.of_own ho)
          have B_13 := Lib.hid (B_12.out.trans (hb.mono B_12.out.size))
          clear hb ho X_12 Y_12 H_12 K_12 M_12 A_12 B_12
          obtain ⟨AZ, cZ, hvZ, -, -, -⟩ := id Z_13.out
          subst hvZ
          go_wp2_with fail
          refine (D1.out _ H_13.out).mono ?_
          rintro e w14 ⟨rfl, hb⟩
          have H_14 := Lib.hid (H_13.out.ext hb)
          have K_14 := Lib.hid (K_13.out.ext hb)
          have M_14 := Lib.hid (M_13.out.ext hb)
          have A_14 := Lib.hid (A_13.out.ext hb)
          have Z_14 := Lib.hid (Z_13.out.ext hb)
          have B_14 := Lib.hid (B_13.out.trans (hb.mono B_13.out.size))
          clear hb H_13 K_13 M_13 A_13 Z_13 B_13
          clear K_14
          clear M_14
          go_wp2_with fail
          refine (cA.out _ _ H_14.out).mono ?_
          rintro e w15 ⟨x14, rfl, ho, hb⟩
          have H_15 := Lib.hid (H_14.out.ext hb)
          have A_15 := Lib.hid (A_14.out.ext hb)
          have Z_15 := Lib.hid (Z_14.out.ext hb)
          have D_15 := Lib.hid (Sl.of_own ho)
          have B_15 := Lib.hid (B_14.out.trans (hb.mono B_14.out.size))
          clear hb ho H_14 A_14 Z_14 B_14
          obtain ⟨A14, c14, hv14, -, -, -⟩ := id D_15.out
          subst hv14
          have SL := Lib.hid (sll_one 22 Z_15.out)
          have H_15a := Lib.hid (H_15.out.alloc (.cells #[.slice AZ Z.length cZ] 22))
          have A_15a := Lib.hid (A_15.out.alloc (.cells #[.slice AZ Z.length cZ] 22))
          have Z_15a := Lib.hid (Z_15.out.alloc (.cells #[.slice AZ Z.length cZ] 22))
          have D_15a := Lib.hid (D_15.out.alloc (.cells #[.slice AZ Z.length cZ] 22))
          have B_15a := Lib.hid (B_15.out.alloc B_15.out.size (.cells #[.slice AZ Z.length cZ] 22))
          clear H_15 A_15 Z_15 D_15 B_15
          go_wp2_with fail
          refine (C5.out _ _ _ D_15a.out SL.out).mono ?_
          rintro e w16 ⟨vw, rfl, ho, hb⟩
          have H_16 := Lib.hid (H_15a.out.ext hb)
          have A_16 := Lib.hid (A_15a.out.ext hb)
          have Ww_16 := Lib.hid (Sl.of_own ho)
          have B_16 := Lib.hid (B_15a.out.trans (hb.mono B_15a.out.size))
          clear hb ho D_15a Z_15a H_15a A_15a B_15a
          clear SL
          go_wp2_with fail
          refine (same_any _ _ R R _ Ww_16.out A_16.out).mono ?_
          rintro e w17 ⟨rfl, hb⟩
          have H_17 := Lib.hid (H_16.out.ext hb)
          have B_17 := Lib.hid (B_16.out.trans (hb.mono B_16.out.size))
          clear hb Ww_16 A_16 H_16 B_16
          rw [sameB_refl R]
          go_wp2_with fail
          refine (known7_any _).mono ?_
          rintro e w18 ⟨rfl, hb⟩
          have B_18 := Lib.hid (B_17.out.trans (hb.mono B_17.out.size))
          clear hb H_17 B_17
          go_wp2
          go_ret
          exact ⟨rfl, B_18.out⟩
        | false =>
          rw [hf1] at d1
          cases hf2 : loneB l 3 with
          | false =>
            rw [hf2] at d2
            generalize rebR l [l', l''] = R at *
            generalize rebR l [l'] = RB at *
            generalize cmpR l' l'' = Z at *
            have C1 := Lib.hid c1; have C2 := Lib.hid c2; have C3 := Lib.hid c3; have C4 := Lib.hid c4; have C5 := Lib.hid c5
            have D1 := Lib.hid d1
            have D2 := Lib.hid d2
            clear c1 c2 c3 c4 c5 mem1 mem2 f1 f2 s1 s2 h0 h1 h2 h h' h'' hd hd' hd'' hl hl' hl'' key k1 k2 k3 k4 d1 d2 d3 d4
            go_enter Try.func18, Try.ntmps18
            go_wp2_with fail
            refine (cA.out _ _ H.out).mono ?_
            rintro e w1 ⟨x0, rfl, ho, hb⟩
            have H_1 := Lib.hid (H.out.ext hb)
            have K_1 := Lib.hid (K.out.ext hb)
            have M_1 := Lib.hid (M.out.ext hb)
            have D_1 := Lib.hid (Sl.of_own ho)
            have B_1 := Lib.hid hb
            clear hb ho H K M
            obtain ⟨A0, c0, hv0, -, -, -⟩ := id D_1.out
            subst hv0
            go_wp2_with fail
            refine (cB.out _ _ K_1.out).mono ?_
            rintro e w2 ⟨x1, rfl, ho, hb⟩
            have H_2 := Lib.hid (H_1.out.ext hb)
            have K_2 := Lib.hid (K_1.out.ext hb)
            have M_2 := Lib.hid (M_1.out.ext hb)
            have D_2 := Lib.hid (D_1.out.ext hb)
            have X_2 := Lib.hid (Sl.of_own ho)
            have B_2 := Lib.hid (B_1.out.trans (hb.mono B_1.out.size))
            clear hb ho H_1 K_1 M_1 D_1 B_1
            obtain ⟨A1, c1, hv1, -, -, -⟩ := id X_2.out
            subst hv1
            go_wp2_with fail
            refine (cC.out _ _ M_2.out).mono ?_
            rintro e w3 ⟨x2, rfl, ho, hb⟩
            have H_3 := Lib.hid (H_2.out.ext hb)
            have K_3 := Lib.hid (K_2.out.ext hb)
            have M_3 := Lib.hid (M_2.out.ext hb)
            have D_3 := Lib.hid (D_2.out.ext hb)
            have X_3 := Lib.hid (X_2.out.ext hb)
            have Y_3 := Lib.hid (Sl.of_own ho)
            have B_3 := Lib.hid (B_2.out.trans (hb.mono B_2.out.size))
            clear hb ho H_2 K_2 M_2 D_2 X_2 B_2
            obtain ⟨A2, c2, hv2, -, -, -⟩ := id Y_3.out
            subst hv2
            have SL := Lib.hid (sll_two 22 X_3.out Y_3.out)
            have H_3a := Lib.hid (H_3.out.alloc (.cells #[.slice A1 l'.length c1, .slice A2 l''.length c2] 22))
            have K_3a := Lib.hid (K_3.out.alloc (.cells #[.slice A1 l'.length c1, .slice A2 l''.length c2] 22))
            have M_3a := Lib.hid (M_3.out.alloc (.cells #[.slice A1 l'.length c1, .slice A2 l''.length c2] 22))
            have D_3a := Lib.hid (D_3.out.alloc (.cells #[.slice A1 l'.length c1, .slice A2 l''.length c2] 22))
            have X_3a := Lib.hid (X_3.out.alloc (.cells #[.slice A1 l'.length c1, .slice A2 l''.length c2] 22))
            have Y_3a := Lib.hid (Y_3.out.alloc (.cells #[.slice A1 l'.length c1, .slice A2 l''.length c2] 22))
            have B_3a := Lib.hid (B_3.out.alloc B_3.out.size (.cells #[.slice A1 l'.length c1, .slice A2 l''.length c2] 22))
            clear H_3 K_3 M_3 D_3 X_3 Y_3 B_3
            go_wp2_with fail
            refine (C1.out _ _ _ D_3a.out SL.out).mono ?_
            rintro e w4 ⟨va, rfl, ho, hb⟩
            have H_4 := Lib.hid (H_3a.out.ext hb)
            have K_4 := Lib.hid (K_3a.out.ext hb)
            have M_4 := Lib.hid (M_3a.out.ext hb)
            have A_4 := Lib.hid (Sl.of_own ho)
            have B_4 := Lib.hid (B_3a.out.trans (hb.mono B_3a.out.size))
            clear hb ho D_3a X_3a Y_3a H_3a K_3a M_3a B_3a
            obtain ⟨AA, cA_, hvA, -, -, -⟩ := id A_4.out
            subst hvA
            clear SL
            go_wp2_with fail
            refine (cA.out _ _ H_4.out).mono ?_
            rintro e w5 ⟨x4, rfl, ho, hb⟩
            have H_5 := Lib.hid (H_4.out.ext hb)
            have K_5 := Lib.hid (K_4.out.ext hb)
            have M_5 := Lib.hid (M_4.out.ext hb)
            have A_5 := Lib.hid (A_4.out.ext hb)
            have D_5 := Lib.hid (Sl.of_own ho)
            have B_5 := Lib.hid (B_4.out.trans (hb.mono B_4.out.size))
            clear hb ho H_4 K_4 M_4 A_4 B_4
            obtain ⟨A4, c4, hv4, -, -, -⟩ := id D_5.out
            subst hv4
            go_wp2_with fail
            refine (cB.out _ _ K_5.out).mono ?_
            rintro e w6 ⟨x5, rfl, ho, hb⟩
            have H_6 := Lib.hid (H_5.out.ext hb)
            have K_6 := Lib.hid (K_5.out.ext hb)
            have M_6 := Lib.hid (M_5.out.ext hb)
            have A_6 := Lib.hid (A_5.out.ext hb)
            have D_6 := Lib.hid (D_5.out.ext hb)
            have X_6 := Lib.hid (Sl.of_own ho)
            have B_6 := Lib.hid (B_5.out.trans (hb.mono B_5.out.size))
            clear hb ho H_5 K_5 M_5 A_5 D_5 B_5
            obtain ⟨A5, c5, hv5, -, -, -⟩ := id X_6.out
            subst hv5
            have SL := Lib.hid (sll_one 22 X_6.out)
            have H_6a := Lib.hid (H_6.out.alloc (.cells #[.slice A5 l'.length c5] 22))
            have K_6a := Lib.hid (K_6.out.alloc (.cells #[.slice A5 l'.length c5] 22))
            have M_6a := Lib.hid (M_6.out.alloc (.cells #[.slice A5 l'.length c5] 22))
            have A_6a := Lib.hid (A_6.out.alloc (.cells #[.slice A5 l'.length c5] 22))
            have D_6a := Lib.hid (D_6.out.alloc (.cells #[.slice A5 l'.length c5] 22))
            have X_6a := Lib.hid (X_6.out.alloc (.cells #[.slice A5 l'.length c5] 22))
            have B_6a := Lib.hid (B_6.out.alloc B_6.out.size (.cells #[.slice A5 l'.length c5] 22))
            clear H_6 K_6 M_6 A_6 D_6 X_6 B_6
            go_wp2_with fail
            refine (C2.out _ _ _ D_6a.out SL.out).mono ?_
            rintro e w7 ⟨vb, rfl, ho, hb⟩
            have H_7 := Lib.hid (H_6a.out.ext hb)
            have K_7 := Lib.hid (K_6a.out.ext hb)
            have M_7 := Lib.hid (M_6a.out.ext hb)
            have A_7 := Lib.hid (A_6a.out.ext hb)
            have Bb_7 := Lib.hid (Sl.of_own ho)
            have B_7 := Lib.hid (B_6a.out.trans (hb.mono B_6a.out.size))
            clear hb ho D_6a X_6a H_6a K_6a M_6a A_6a B_6a
            clear SL
            go_wp2_with fail
            refine (cC.out _ _ M_7.out).mono ?_
            rintro e w8 ⟨x7, rfl, ho, hb⟩
            have H_8 := Lib.hid (H_7.out.ext hb)
            have K_8 := Lib.hid (K_7.out.ext hb)
            have M_8 := Lib.hid (M_7.out.ext hb)
            have A_8 := Lib.hid (A_7.out.ext hb)
            have Bb_8 := Lib.hid (Bb_7.out.ext hb)
            have Y_8 := Lib.hid (Sl.of_own ho)
            have B_8 := Lib.hid (B_7.out.trans (hb.mono B_7.out.size))
            clear hb ho H_7 K_7 M_7 A_7 Bb_7 B_7
            obtain ⟨A7, c7, hv7, -, -, -⟩ := id Y_8.out
            subst hv7
            have SL := Lib.hid (sll_one 22 Y_8.out)
            have H_8a := Lib.hid (H_8.out.alloc (.cells #[.slice A7 l''.length c7] 22))
            have K_8a := Lib.hid (K_8.out.alloc (.cells #[.slice A7 l''.length c7] 22))
            have M_8a := Lib.hid (M_8.out.alloc (.cells #[.slice A7 l''.length c7] 22))
            have A_8a := Lib.hid (A_8.out.alloc (.cells #[.slice A7 l''.length c7] 22))
            have Bb_8a := Lib.hid (Bb_8.out.alloc (.cells #[.slice A7 l''.length c7] 22))
            have Y_8a := Lib.hid (Y_8.out.alloc (.cells #[.slice A7 l''.length c7] 22))
            have B_8a := Lib.hid (B_8.out.alloc B_8.out.size (.cells #[.slice A7 l''.length c7] 22))
            clear H_8 K_8 M_8 A_8 Bb_8 Y_8 B_8
            go_wp2_with fail
            refine (C3.out _ _ _ Bb_8a.out SL.out).mono ?_
            rintro e w9 ⟨vc, rfl, ho, hb⟩
            have H_9 := Lib.hid (H_8a.out.ext hb)
            have K_9 := Lib.hid (K_8a.out.ext hb)
            have M_9 := Lib.hid (M_8a.out.ext hb)
            have A_9 := Lib.hid (A_8a.out.ext hb)
            have C_9 := Lib.hid (Sl.of_own ho)
            have B_9 := Lib.hid (B_8a.out.trans (hb.mono B_8a.out.size))
            clear hb ho Bb_8a Y_8a H_8a K_8a M_8a A_8a B_8a
            clear SL
            go_wp2_with fail
            refine (same_any _ _ R R _ A_9.out C_9.out).mono ?_
            rintro e w10 ⟨rfl, hb⟩
            have H_10 := Lib.hid (H_9.out.ext hb)
            have K_10 := Lib.hid (K_9.out.ext hb)
            have M_10 := Lib.hid (M_9.out.ext hb)
            have A_10 := Lib.hid (A_9.out.ext hb)
            have B_10 := Lib.hid (B_9.out.trans (hb.mono B_9.out.size))
            clear hb C_9 H_9 K_9 M_9 A_9 B_9
            rw [sameB_refl R]
            go_wp2_with fail
            refine (cB.out _ _ K_10.out).mono ?_
            rintro e w11 ⟨x10, rfl, ho, hb⟩
            have H_11 := Lib.hid (H_10.out.ext hb)
            have K_11 := Lib.hid (K_10.out.ext hb)
            have M_11 := Lib.hid (M_10.out.ext hb)
            have A_11 := Lib.hid (A_10.out.ext hb)
            have X_11 := Lib.hid (Sl.of_own ho)
            have B_11 := Lib.hid (B_10.out.trans (hb.mono B_10.out.size))
            clear hb ho H_10 K_10 M_10 A_10 B_10
            obtain ⟨A10, c10, hv10, -, -, -⟩ := id X_11.out
            subst hv10
            go_wp2_with fail
            refine (cC.out _ _ M_11.out).mono ?_
            rintro e w12 ⟨x11, rfl, ho, hb⟩
            have H_12 := Lib.hid (H_11.out.ext hb)
            have K_12 := Lib.hid (K_11.out.ext hb)
            have M_12 := Lib.hid (M_11.out.ext hb)
            have A_12 := Lib.hid (A_11.out.ext hb)
            have X_12 := Lib.hid (X_11.out.ext hb)
            have Y_12 := Lib.hid (Sl.of_own ho)
            have B_12 := Lib.hid (B_11.out.trans (hb.mono B_11.out.size))
            clear hb ho H_11 K_11 M_11 A_11 X_11 B_11
            obtain ⟨A11, c11, hv11, -, -, -⟩ := id Y_12.out
            subst hv11
            go_wp2_with fail
            refine (C4.out _ _ _ X_12.out Y_12.out).mono ?_
            rintro e w13 ⟨vz, rfl, ho, hb⟩
            have H_13 := Lib.hid (H_12.out.ext hb)
            have K_13 := Lib.hid (K_12.out.ext hb)
            have M_13 := Lib.hid (M_12.out.ext hb)
            have A_13 := Lib.hid (A_12.out.ext hb)
            have Z_13 := Lib.hid (Sl.of_own ho)
            have B_13 := Lib.hid (B_12.out.trans (hb.mono B_12.out.size))
            clear hb ho X_12 Y_12 H_12 K_12 M_12 A_12 B_12
            obtain ⟨AZ, cZ, hvZ, -, -, -⟩ := id Z_13.out
            subst hvZ
            go_wp2_with fail
            refine (D1.out _ H_13.out).mono ?_
            rintro e w14 ⟨rfl, hb⟩
            have H_14 := Lib.hid (H_13.out.ext hb)
            have K_14 := Lib.hid (K_13.out.ext hb)
            have M_14 := Lib.hid (M_13.out.ext hb)
            have A_14 := Lib.hid (A_13.out.ext hb)
            have Z_14 := Lib.hid (Z_13.out.ext hb)
            have B_14 := Lib.hid (B_13.out.trans (hb.mono B_13.out.size))
            clear hb H_13 K_13 M_13 A_13 Z_13 B_13
            go_wp2_with fail
            refine (D2.out _ H_14.out).mono ?_
            rintro e w15 ⟨rfl, hb⟩
            have H_15 := Lib.hid (H_14.out.ext hb)
            have K_15 := Lib.hid (K_14.out.ext hb)
            have M_15 := Lib.hid (M_14.out.ext hb)
            have A_15 := Lib.hid (A_14.out.ext hb)
            have Z_15 := Lib.hid (Z_14.out.ext hb)
            have B_15 := Lib.hid (B_14.out.trans (hb.mono B_14.out.size))
            clear hb H_14 K_14 M_14 A_14 Z_14 B_14
            go_wp2_with fail
            refine (known7_any _).mono ?_
            rintro e w16 ⟨rfl, hb⟩
            have B_16 := Lib.hid (B_15.out.trans (hb.mono B_15.out.size))
            clear hb H_15 K_15 M_15 A_15 Z_15 B_15
            go_wp2
            go_ret
            exact ⟨rfl, B_16.out⟩
          | true =>
            rw [hf2] at d2
            cases hf3 : loneB l' 2 with
            | true =>
              rw [hf3] at d3
              obtain ⟨q1, q2⟩ := key (.inr ⟨k2.1 hf2, .inl (k3.1 hf3)⟩)
              rw [q1, q2] at c5
              generalize rebR l [l', l''] = R at *
              generalize rebR l [l'] = RB at *
              generalize cmpR l' l'' = Z at *
              have C1 := Lib.hid c1; have C2 := Lib.hid c2; have C3 := Lib.hid c3; have C4 := Lib.hid c4; have C5 := Lib.hid c5
              have D1 := Lib.hid d1
              have D2 := Lib.hid d2
              have D3 := Lib.hid d3
              clear c1 c2 c3 c4 c5 mem1 mem2 f1 f2 s1 s2 h0 h1 h2 h h' h'' hd hd' hd'' hl hl' hl'' key k1 k2 k3 k4 d1 d2 d3 d4 q1 q2
              go_enter Try.func18, Try.ntmps18
              go_wp2_with fail
              refine (cA.out _ _ H.out).mono ?_
              rintro e w1 ⟨x0, rfl, ho, hb⟩
              have H_1 := Lib.hid (H.out.ext hb)
              have K_1 := Lib.hid (K.out.ext hb)
              have M_1 := Lib.hid (M.out.ext hb)
              have D_1 := Lib.hid (Sl.of_own ho)
              have B_1 := Lib.hid hb
              clear hb ho H K M
              obtain ⟨A0, c0, hv0, -, -, -⟩ := id D_1.out
              subst hv0
              go_wp2_with fail
              refine (cB.out _ _ K_1.out).mono ?_
              rintro e w2 ⟨x1, rfl, ho, hb⟩
              have H_2 := Lib.hid (H_1.out.ext hb)
              have K_2 := Lib.hid (K_1.out.ext hb)
              have M_2 := Lib.hid (M_1.out.ext hb)
              have D_2 := Lib.hid (D_1.out.ext hb)
              have X_2 := Lib.hid (Sl.of_own ho)
              have B_2 := Lib.hid (B_1.out.trans (hb.mono B_1.out.size))
              clear hb ho H_1 K_1 M_1 D_1 B_1
              obtain ⟨A1, c1, hv1, -, -, -⟩ := id X_2.out
              subst hv1
              go_wp2_with fail
              refine (cC.out _ _ M_2.out).mono ?_
              rintro e w3 ⟨x2, rfl, ho, hb⟩
              have H_3 := Lib.hid (H_2.out.ext hb)
              have K_3 := Lib.hid (K_2.out.ext hb)
              have M_3 := Lib.hid (M_2.out.ext hb)
              have D_3 := Lib.hid (D_2.out.ext hb)
              have X_3 := Lib.hid (X_2.out.ext hb)
              have Y_3 := Lib.hid (Sl.of_own ho)
              have B_3 := Lib.hid (B_2.out.trans (hb.mono B_2.out.size))
              clear hb ho H_2 K_2 M_2 D_2 X_2 B_2
              obtain ⟨A2, c2, hv2, -, -, -⟩ := id Y_3.out
              subst hv2
              have SL := Lib.hid (sll_two 22 X_3.out Y_3.out)
              have H_3a := Lib.hid (H_3.out.alloc (.cells #[.slice A1 l'.length c1, .slice A2 l''.length c2] 22))
              have K_3a := Lib.hid (K_3.out.alloc (.cells #[.slice A1 l'.length c1, .slice A2 l''.length c2] 22))
              have M_3a := Lib.hid (M_3.out.alloc (.cells #[.slice A1 l'.length c1, .slice A2 l''.length c2] 22))
              have D_3a := Lib.hid (D_3.out.alloc (.cells #[.slice A1 l'.length c1, .slice A2 l''.length c2] 22))
              have X_3a := Lib.hid (X_3.out.alloc (.cells #[.slice A1 l'.length c1, .slice A2 l''.length c2] 22))
              have Y_3a := Lib.hid (Y_3.out.alloc (.cells #[.slice A1 l'.length c1, .slice A2 l''.length c2] 22))
              have B_3a := Lib.hid (B_3.out.alloc B_3.out.size (.cells #[.slice A1 l'.length c1, .slice A2 l''.length c2] 22))
              clear H_3 K_3 M_3 D_3 X_3 Y_3 B_3
              go_wp2_with fail
              refine (C1.out _ _ _ D_3a.out SL.out).mono ?_
              rintro e w4 ⟨va, rfl, ho, hb⟩
              have H_4 := Lib.hid (H_3a.out.ext hb)
              have K_4 := Lib.hid (K_3a.out.ext hb)
              have M_4 := Lib.hid (M_3a.out.ext hb)
              have A_4 := Lib.hid (Sl.of_own ho)
              have B_4 := Lib.hid (B_3a.out.trans (hb.mono B_3a.out.size))
              clear hb ho D_3a X_3a Y_3a H_3a K_3a M_3a B_3a
              obtain ⟨AA, cA_, hvA, -, -, -⟩ := id A_4.out
              subst hvA
              clear SL
              go_wp2_with fail
              refine (cA.out _ _ H_4.out).mono ?_
              rintro e w5 ⟨x4, rfl, ho, hb⟩
              have H_5 := Lib.hid (H_4.out.ext hb)
              have K_5 := Lib.hid (K_4.out.ext hb)
              have M_5 := Lib.hid (M_4.out.ext hb)
              have A_5 := Lib.hid (A_4.out.ext hb)
              have D_5 := Lib.hid (Sl.of_own ho)
              have B_5 := Lib.hid (B_4.out.trans (hb.mono B_4.out.size))
              clear hb ho H_4 K_4 M_4 A_4 B_4
              obtain ⟨A4, c4, hv4, -, -, -⟩ := id D_5.out
              subst hv4
              go_wp2_with fail
              refine (cB.out _ _ K_5.out).mono ?_
              rintro e w6 ⟨x5, rfl, ho, hb⟩
              have H_6 := Lib.hid (H_5.out.ext hb)
              have K_6 := Lib.hid (K_5.out.ext hb)
              have M_6 := Lib.hid (M_5.out.ext hb)
              have A_6 := Lib.hid (A_5.out.ext hb)
              have D_6 := Lib.hid (D_5.out.ext hb)
              have X_6 := Lib.hid (Sl.of_own ho)
              have B_6 := Lib.hid (B_5.out.trans (hb.mono B_5.out.size))
              clear hb ho H_5 K_5 M_5 A_5 D_5 B_5
              obtain ⟨A5, c5, hv5, -, -, -⟩ := id X_6.out
              subst hv5
              have SL := Lib.hid (sll_one 22 X_6.out)
              have H_6a := Lib.hid (H_6.out.alloc (.cells #[.slice A5 l'.length c5] 22))
              have K_6a := Lib.hid (K_6.out.alloc (.cells #[.slice A5 l'.length c5] 22))
              have M_6a := Lib.hid (M_6.out.alloc (.cells #[.slice A5 l'.length c5] 22))
              have A_6a := Lib.hid (A_6.out.alloc (.cells #[.slice A5 l'.length c5] 22))
              have D_6a := Lib.hid (D_6.out.alloc (.cells #[.slice A5 l'.length c5] 22))
              have X_6a := Lib.hid (X_6.out.alloc (.cells #[.slice A5 l'.length c5] 22))
              have B_6a := Lib.hid (B_6.out.alloc B_6.out.size (.cells #[.slice A5 l'.length c5] 22))
              clear H_6 K_6 M_6 A_6 D_6 X_6 B_6
              go_wp2_with fail
              refine (C2.out _ _ _ D_6a.out SL.out).mono ?_
              rintro e w7 ⟨vb, rfl, ho, hb⟩
              have H_7 := Lib.hid (H_6a.out.ext hb)
              have K_7 := Lib.hid (K_6a.out.ext hb)
              have M_7 := Lib.hid (M_6a.out.ext hb)
              have A_7 := Lib.hid (A_6a.out.ext hb)
              have Bb_7 := Lib.hid (Sl.of_own ho)
              have B_7 := Lib.hid (B_6a.out.trans (hb.mono B_6a.out.size))
              clear hb ho D_6a X_6a H_6a K_6a M_6a A_6a B_6a
              clear SL
              go_wp2_with fail
              refine (cC.out _ _ M_7.out).mono ?_
              rintro e w8 ⟨x7, rfl, ho, hb⟩
              have H_8 := Lib.hid (H_7.out.ext hb)
              have K_8 := Lib.hid (K_7.out.ext hb)
              have M_8 := Lib.hid (M_7.out.ext hb)
              have A_8 := Lib.hid (A_7.out.ext hb)
              have Bb_8 := Lib.hid (Bb_7.out.ext hb)
              have Y_8 := Lib.hid (Sl.of_own ho)
              have B_8 := Lib.hid (B_7.out.trans (hb.mono B_7.out.size))
              clear hb ho H_7 K_7 M_7 A_7 Bb_7 B_7
              obtain ⟨A7, c7, hv7, -, -, -⟩ := id Y_8.out
              subst hv7
              have SL := Lib.hid (sll_one 22 Y_8.out)
              have H_8a := Lib.hid (H_8.out.alloc (.cells #[.slice A7 l''.length c7] 22))
              have K_8a := Lib.hid (K_8.out.alloc (.cells #[.slice A7 l''.length c7] 22))
              have M_8a := Lib.hid (M_8.out.alloc (.cells #[.slice A7 l''.length c7] 22))
              have A_8a := Lib.hid (A_8.out.alloc (.cells #[.slice A7 l''.length c7] 22))
              have Bb_8a := Lib.hid (Bb_8.out.alloc (.cells #[.slice A7 l''.length c7] 22))
              have Y_8a := Lib.hid (Y_8.out.alloc (.cells #[.slice A7 l''.length c7] 22))
              have B_8a := Lib.hid (B_8.out.alloc B_8.out.size (.cells #[.slice A7 l''.length c7] 22))
              clear H_8 K_8 M_8 A_8 Bb_8 Y_8 B_8
              go_wp2_with fail
              refine (C3.out _ _ _ Bb_8a.out SL.out).mono ?_
              rintro e w9 ⟨vc, rfl, ho, hb⟩
              have H_9 := Lib.hid (H_8a.out.ext hb)
              have K_9 := Lib.hid (K_8a.out.ext hb)
              have M_9 := Lib.hid (M_8a.out.ext hb)
              have A_9 := Lib.hid (A_8a.out.ext hb)
              have C_9 := Lib.hid (Sl.of_own ho)
              have B_9 := Lib.hid (B_8a.out.trans (hb.mono B_8a.out.size))
              clear hb ho Bb_8a Y_8a H_8a K_8a M_8a A_8a B_8a
              clear SL
              go_wp2_with fail
              refine (same_any _ _ R R _ A_9.out C_9.out).mono ?_
              rintro e w10 ⟨rfl, hb⟩
              have H_10 := Lib.hid (H_9.out.ext hb)
              have K_10 := Lib.hid (K_9.out.ext hb)
              have M_10 := Lib.hid (M_9.out.ext hb)
              have A_10 := Lib.hid (A_9.out.ext hb)
              have B_10 := Lib.hid (B_9.out.trans (hb.mono B_9.out.size))
              clear hb C_9 H_9 K_9 M_9 A_9 B_9
              rw [sameB_refl R]
              go_wp2_with fail
              refine (cB.out _ _ K_10.out).mono ?_
              rintro e w11 ⟨x10, rfl, ho, hb⟩
              have H_11 := Lib.hid (H_10.out.ext hb)
              have K_11 := Lib.hid (K_10.out.ext hb)
              have M_11 := Lib.hid (M_10.out.ext hb)
              have A_11 := Lib.hid (A_10.out.ext hb)
              have X_11 := Lib.hid (Sl.of_own ho)
              have B_11 := Lib.hid (B_10.out.trans (hb.mono B_10.out.size))
              clear hb ho H_10 K_10 M_10 A_10 B_10
              obtain ⟨A10, c10, hv10, -, -, -⟩ := id X_11.out
              subst hv10
              go_wp2_with fail
              refine (cC.out _ _ M_11.out).mono ?_
              rintro e w12 ⟨x11, rfl, ho, hb⟩
              have H_12 := Lib.hid (H_11.out.ext hb)
              have K_12 := Lib.hid (K_11.out.ext hb)
              have M_12 := Lib.hid (M_11.out.ext hb)
              have A_12 := Lib.hid (A_11.out.ext hb)
              have X_12 := Lib.hid (X_11.out.ext hb)
              have Y_12 := Lib.hid (Sl.of_own ho)
              have B_12 := Lib.hid (B_11.out.trans (hb.mono B_11.out.size))
              clear hb ho H_11 K_11 M_11 A_11 X_11 B_11
              obtain ⟨A11, c11, hv11, -, -, -⟩ := id Y_12.out
              subst hv11
              go_wp2_with fail
              refine (C4.out _ _ _ X_12.out Y_12.out).mono ?_
              rintro e w13 ⟨vz, rfl, ho, hb⟩
              have H_13 := Lib.hid (H_12.out.ext hb)
              have K_13 := Lib.hid (K_12.out.ext hb)
              have M_13 := Lib.hid (M_12.out.ext hb)
              have A_13 := Lib.hid (A_12.out.ext hb)
              have Z_13 := Lib.hid (Sl.of_own ho)
              have B_13 := Lib.hid (B_12.out.trans (hb.mono B_12.out.size))
              clear hb ho X_12 Y_12 H_12 K_12 M_12 A_12 B_12
              obtain ⟨AZ, cZ, hvZ, -, -, -⟩ := id Z_13.out
              subst hvZ
              go_wp2_with fail
              refine (D1.out _ H_13.out).mono ?_
              rintro e w14 ⟨rfl, hb⟩
              have H_14 := Lib.hid (H_13.out.ext hb)
              have K_14 := Lib.hid (K_13.out.ext hb)
              have M_14 := Lib.hid (M_13.out.ext hb)
              have A_14 := Lib.hid (A_13.out.ext hb)
              have Z_14 := Lib.hid (Z_13.out.ext hb)
              have B_14 := Lib.hid (B_13.out.trans (hb.mono B_13.out.size))
              clear hb H_13 K_13 M_13 A_13 Z_13 B_13
              go_wp2_with fail
              refine (D2.out _ H_14.out).mono ?_
              rintro e w15 ⟨rfl, hb⟩
              have H_15 := Lib.hid (H_14.out.ext hb)
              have K_15 := Lib.hid (K_14.out.ext hb)
              have M_15 := Lib.hid (M_14.out.ext hb)
              have A_15 := Lib.hid (A_14.out.ext hb)
              have Z_15 := Lib.hid (Z_14.out.ext hb)
              have B_15 := Lib.hid (B_14.out.trans (hb.mono B_14.out.size))
              clear hb H_14 K_14 M_14 A_14 Z_14 B_14
              go_wp2_with fail
              refine (D3.out _ K_15.out).mono ?_
              rintro e w16 ⟨rfl, hb⟩
              have H_16 := Lib.hid (H_15.out.ext hb)
              have K_16 := Lib.hid (K_15.out.ext hb)
              have M_16 := Lib.hid (M_15.out.ext hb)
              have A_16 := Lib.hid (A_15.out.ext hb)
              have Z_16 := Lib.hid (Z_15.out.ext hb)
              have B_16 := Lib.hid (B_15.out.trans (hb.mono B_15.out.size))
              clear hb H_15 K_15 M_15 A_15 Z_15 B_15
              clear K_16
              clear M_16
              go_wp2_with fail
              refine (cA.out _ _ H_16.out).mono ?_
              rintro e w17 ⟨x16, rfl, ho, hb⟩
              have H_17 := Lib.hid (H_16.out.ext hb)
              have A_17 := Lib.hid (A_16.out.ext hb)
              have Z_17 := Lib.hid (Z_16.out.ext hb)
              have D_17 := Lib.hid (Sl.of_own ho)
              have B_17 := Lib.hid (B_16.out.trans (hb.mono B_16.out.size))
              clear hb ho H_16 A_16 Z_16 B_16
              obtain ⟨A16, c16, hv16, -, -, -⟩ := id D_17.out
              subst hv16
              have SL := Lib.hid (sll_one 22 Z_17.out)
              have H_17a := Lib.hid (H_17.out.alloc (.cells #[.slice AZ Z.length cZ] 22))
              have A_17a := Lib.hid (A_17.out.alloc (.cells #[.slice AZ Z.length cZ] 22))
              have Z_17a := Lib.hid (Z_17.out.alloc (.cells #[.slice AZ Z.length cZ] 22))
              have D_17a := Lib.hid (D_17.out.alloc (.cells #[.slice AZ Z.length cZ] 22))
              have B_17a := Lib.hid (B_17.out.alloc B_17.out.size (.cells #[.slice AZ Z.length cZ] 22))
              clear H_17 A_17 Z_17 D_17 B_17
              go_wp2_with fail
              refine (C5.out _ _ _ D_17a.out SL.out).mono ?_
              rintro e w18 ⟨vw, rfl, ho, hb⟩
              have H_18 := Lib.hid (H_17a.out.ext hb)
              have A_18 := Lib.hid (A_17a.out.ext hb)
              have Ww_18 := Lib.hid (Sl.of_own ho)
              have B_18 := Lib.hid (B_17a.out.trans (hb.mono B_17a.out.size))
              clear hb ho D_17a Z_17a H_17a A_17a B_17a
              clear SL
              go_wp2_with fail
              refine (same_any _ _ R R _ Ww_18.out A_18.out).mono ?_
              rintro e w19 ⟨rfl, hb⟩
              have H_19 := Lib.hid (H_18.out.ext hb)
              have B_19 := Lib.hid (B_18.out.trans (hb.mono B_18.out.size))
              clear hb Ww_18 A_18 H_18 B_18
              rw [sameB_refl R]
              go_wp2_with fail
              refine (known7_any _).mono ?_
              rintro e w20 ⟨rfl, hb⟩
              have B_20 := Lib.hid (B_19.out.trans (hb.mono B_19.out.size))
              clear hb H_19 B_19
              go_wp2
              go_ret
              exact ⟨rfl, B_20.out⟩
            | false =>
              rw [hf3] at d3
              cases hf4 : loneB l'' 3 with
              | true =>
                rw [hf4] at d4
                obtain ⟨q1, q2⟩ := key (.inr ⟨k2.1 hf2, .inr (k4.1 hf4)⟩)
                rw [q1, q2] at c5
                generalize rebR l [l', l''] = R at *
                generalize rebR l [l'] = RB at *
                generalize cmpR l' l'' = Z at *
                have C1 := Lib.hid c1; have C2 := Lib.hid c2; have C3 := Lib.hid c3; have C4 := Lib.hid c4; have C5 := Lib.hid c5
                have D1 := Lib.hid d1
                have D2 := Lib.hid d2
                have D3 := Lib.hid d3
                have D4 := Lib.hid d4
                clear c1 c2 c3 c4 c5 mem1 mem2 f1 f2 s1 s2 h0 h1 h2 h h' h'' hd hd' hd'' hl hl' hl'' key k1 k2 k3 k4 d1 d2 d3 d4 q1 q2
                go_enter Try.func18, Try.ntmps18
                go_wp2_with fail
                refine (cA.out _ _ H.out).mono ?_
                rintro e w1 ⟨x0, rfl, ho, hb⟩
                have H_1 := Lib.hid (H.out.ext hb)
                have K_1 := Lib.hid (K.out.ext hb)
                have M_1 := Lib.hid (M.out.ext hb)
                have D_1 := Lib.hid (Sl.of_own ho)
                have B_1 := Lib.hid hb
                clear hb ho H K M
                obtain ⟨A0, c0, hv0, -, -, -⟩ := id D_1.out
                subst hv0
                go_wp2_with fail
                refine (cB.out _ _ K_1.out).mono ?_
                rintro e w2 ⟨x1, rfl, ho, hb⟩
                have H_2 := Lib.hid (H_1.out.ext hb)
                have K_2 := Lib.hid (K_1.out.ext hb)
                have M_2 := Lib.hid (M_1.out.ext hb)
                have D_2 := Lib.hid (D_1.out.ext hb)
                have X_2 := Lib.hid (Sl.of_own ho)
                have B_2 := Lib.hid (B_1.out.trans (hb.mono B_1.out.size))
                clear hb ho H_1 K_1 M_1 D_1 B_1
                obtain ⟨A1, c1, hv1, -, -, -⟩ := id X_2.out
                subst hv1
                go_wp2_with fail
                refine (cC.out _ _ M_2.out).mono ?_
                rintro e w3 ⟨x2, rfl, ho, hb⟩
                have H_3 := Lib.hid (H_2.out.ext hb)
                have K_3 := Lib.hid (K_2.out.ext hb)
                have M_3 := Lib.hid (M_2.out.ext hb)
                have D_3 := Lib.hid (D_2.out.ext hb)
                have X_3 := Lib.hid (X_2.out.ext hb)
                have Y_3 := Lib.hid (Sl.of_own ho)
                have B_3 := Lib.hid (B_2.out.trans (hb.mono B_2.out.size))
                clear hb ho H_2 K_2 M_2 D_2 X_2 B_2
                obtain ⟨A2, c2, hv2, -, -, -⟩ := id Y_3.out
                subst hv2
                have SL := Lib.hid (sll_two 22 X_3.out Y_3.out)
                have H_3a := Lib.hid (H_3.out.alloc (.cells #[.slice A1 l'.length c1, .slice A2 l''.length c2] 22))
                have K_3a := Lib.hid (K_3.out.alloc (.cells #[.slice A1 l'.length c1, .slice A2 l''.length c2] 22))
                have M_3a := Lib.hid (M_3.out.alloc (.cells #[.slice A1 l'.length c1, .slice A2 l''.length c2] 22))
                have D_3a := Lib.hid (D_3.out.alloc (.cells #[.slice A1 l'.length c1, .slice A2 l''.length c2] 22))
                have X_3a := Lib.hid (X_3.out.alloc (.cells #[.slice A1 l'.length c1, .slice A2 l''.length c2] 22))
                have Y_3a := Lib.hid (Y_3.out.alloc (.cells #[.slice A1 l'.length c1, .slice A2 l''.length c2] 22))
                have B_3a := Lib.hid (B_3.out.alloc B_3.out.size (.cells #[.slice A1 l'.length c1, .slice A2 l''.length c2] 22))
                clear H_3 K_3 M_3 D_3 X_3 Y_3 B_3
                go_wp2_with fail
                refine (C1.out _ _ _ D_3a.out SL.out).mono ?_
                rintro e w4 ⟨va, rfl, ho, hb⟩
                have H_4 := Lib.hid (H_3a.out.ext hb)
                have K_4 := Lib.hid (K_3a.out.ext hb)
                have M_4 := Lib.hid (M_3a.out.ext hb)
                have A_4 := Lib.hid (Sl.of_own ho)
                have B_4 := Lib.hid (B_3a.out.trans (hb.mono B_3a.out.size))
                clear hb ho D_3a X_3a Y_3a H_3a K_3a M_3a B_3a
                obtain ⟨AA, cA_, hvA, -, -, -⟩ := id A_4.out
                subst hvA
                clear SL
                go_wp2_with fail
                refine (cA.out _ _ H_4.out).mono ?_
                rintro e w5 ⟨x4, rfl, ho, hb⟩
                have H_5 := Lib.hid (H_4.out.ext hb)
                have K_5 := Lib.hid (K_4.out.ext hb)
                have M_5 := Lib.hid (M_4.out.ext hb)
                have A_5 := Lib.hid (A_4.out.ext hb)
                have D_5 := Lib.hid (Sl.of_own ho)
                have B_5 := Lib.hid (B_4.out.trans (hb.mono B_4.out.size))
                clear hb ho H_4 K_4 M_4 A_4 B_4
                obtain ⟨A4, c4, hv4, -, -, -⟩ := id D_5.out
                subst hv4
                go_wp2_with fail
                refine (cB.out _ _ K_5.out).mono ?_
                rintro e w6 ⟨x5, rfl, ho, hb⟩
                have H_6 := Lib.hid (H_5.out.ext hb)
                have K_6 := Lib.hid (K_5.out.ext hb)
                have M_6 := Lib.hid (M_5.out.ext hb)
                have A_6 := Lib.hid (A_5.out.ext hb)
                have D_6 := Lib.hid (D_5.out.ext hb)
                have X_6 := Lib.hid (Sl.of_own ho)
                have B_6 := Lib.hid (B_5.out.trans (hb.mono B_5.out.size))
                clear hb ho H_5 K_5 M_5 A_5 D_5 B_5
                obtain ⟨A5, c5, hv5, -, -, -⟩ := id X_6.out
                subst hv5
                have SL := Lib.hid (sll_one 22 X_6.out)
                have H_6a := Lib.hid (H_6.out.alloc (.cells #[.slice A5 l'.length c5] 22))
                have K_6a := Lib.hid (K_6.out.alloc (.cells #[.slice A5 l'.length c5] 22))
                have M_6a := Lib.hid (M_6.out.alloc (.cells #[.slice A5 l'.length c5] 22))
                have A_6a := Lib.hid (A_6.out.alloc (.cells #[.slice A5 l'.length c5] 22))
                have D_6a := Lib.hid (D_6.out.alloc (.cells #[.slice A5 l'.length c5] 22))
                have X_6a := Lib.hid (X_6.out.alloc (.cells #[.slice A5 l'.length c5] 22))
                have B_6a := Lib.hid (B_6.out.alloc B_6.out.size (.cells #[.slice A5 l'.length c5] 22))
                clear H_6 K_6 M_6 A_6 D_6 X_6 B_6
                go_wp2_with fail
                refine (C2.out _ _ _ D_6a.out SL.out).mono ?_
                rintro e w7 ⟨vb, rfl, ho, hb⟩
                have H_7 := Lib.hid (H_6a.out.ext hb)
                have K_7 := Lib.hid (K_6a.out.ext hb)
                have M_7 := Lib.hid (M_6a.out.ext hb)
                have A_7 := Lib.hid (A_6a.out.ext hb)
                have Bb_7 := Lib.hid (Sl.of_own ho)
                have B_7 := Lib.hid (B_6a.out.trans (hb.mono B_6a.out.size))
                clear hb ho D_6a X_6a H_6a K_6a M_6a A_6a B_6a
                clear SL
                go_wp2_with fail
                refine (cC.out _ _ M_7.out).mono ?_
                rintro e w8 ⟨x7, rfl, ho, hb⟩
                have H_8 := Lib.hid (H_7.out.ext hb)
                have K_8 := Lib.hid (K_7.out.ext hb)
                have M_8 := Lib.hid (M_7.out.ext hb)
                have A_8 := Lib.hid (A_7.out.ext hb)
                have Bb_8 := Lib.hid (Bb_7.out.ext hb)
                have Y_8 := Lib.hid (Sl.of_own ho)
                have B_8 := Lib.hid (B_7.out.trans (hb.mono B_7.out.size))
                clear hb ho H_7 K_7 M_7 A_7 Bb_7 B_7
                obtain ⟨A7, c7, hv7, -, -, -⟩ := id Y_8.out
                subst hv7
                have SL := Lib.hid (sll_one 22 Y_8.out)
                have H_8a := Lib.hid (H_8.out.alloc (.cells #[.slice A7 l''.length c7] 22))
                have K_8a := Lib.hid (K_8.out.alloc (.cells #[.slice A7 l''.length c7] 22))
                have M_8a := Lib.hid (M_8.out.alloc (.cells #[.slice A7 l''.length c7] 22))
                have A_8a := Lib.hid (A_8.out.alloc (.cells #[.slice A7 l''.length c7] 22))
                have Bb_8a := Lib.hid (Bb_8.out.alloc (.cells #[.slice A7 l''.length c7] 22))
                have Y_8a := Lib.hid (Y_8.out.alloc (.cells #[.slice A7 l''.length c7] 22))
                have B_8a := Lib.hid (B_8.out.alloc B_8.out.size (.cells #[.slice A7 l''.length c7] 22))
                clear H_8 K_8 M_8 A_8 Bb_8 Y_8 B_8
                go_wp2_with fail
                refine (C3.out _ _ _ Bb_8a.out SL.out).mono ?_
                rintro e w9 ⟨vc, rfl, ho, hb⟩
                have H_9 := Lib.hid (H_8a.out.ext hb)
                have K_9 := Lib.hid (K_8a.out.ext hb)
                have M_9 := Lib.hid (M_8a.out.ext hb)
                have A_9 := Lib.hid (A_8a.out.ext hb)
                have C_9 := Lib.hid (Sl.of_own ho)
                have B_9 := Lib.hid (B_8a.out.trans (hb.mono B_8a.out.size))
                clear hb ho Bb_8a Y_8a H_8a K_8a M_8a A_8a B_8a
                clear SL
                go_wp2_with fail
                refine (same_any _ _ R R _ A_9.out C_9.out).mono ?_
                rintro e w10 ⟨rfl, hb⟩
                have H_10 := Lib.hid (H_9.out.ext hb)
                have K_10 := Lib.hid (K_9.out.ext hb)
                have M_10 := Lib.hid (M_9.out.ext hb)
                have A_10 := Lib.hid (A_9.out.ext hb)
                have B_10 := Lib.hid (B_9.out.trans (hb.mono B_9.out.size))
                clear hb C_9 H_9 K_9 M_9 A_9 B_9
                rw [sameB_refl R]
                go_wp2_with fail
                refine (cB.out _ _ K_10.out).mono ?_
                rintro e w11 ⟨x10, rfl, ho, hb⟩
                have H_11 := Lib.hid (H_10.out.ext hb)
                have K_11 := Lib.hid (K_10.out.ext hb)
                have M_11 := Lib.hid (M_10.out.ext hb)
                have A_11 := Lib.hid (A_10.out.ext hb)
                have X_11 := Lib.hid (Sl.of_own ho)
                have B_11 := Lib.hid (B_10.out.trans (hb.mono B_10.out.size))
                clear hb ho H_10 K_10 M_10 A_10 B_10
                obtain ⟨A10, c10, hv10, -, -, -⟩ := id X_11.out
                subst hv10
                go_wp2_with fail
                refine (cC.out _ _ M_11.out).mono ?_
                rintro e w12 ⟨x11, rfl, ho, hb⟩
                have H_12 := Lib.hid (H_11.out.ext hb)
                have K_12 := Lib.hid (K_11.out.ext hb)
                have M_12 := Lib.hid (M_11.out.ext hb)
                have A_12 := Lib.hid (A_11.out.ext hb)
                have X_12 := Lib.hid (X_11.out.ext hb)
                have Y_12 := Lib.hid (Sl.of_own ho)
                have B_12 := Lib.hid (B_11.out.trans (hb.mono B_11.out.size))
                clear hb ho H_11 K_11 M_11 A_11 X_11 B_11
                obtain ⟨A11, c11, hv11, -, -, -⟩ := id Y_12.out
                subst hv11
                go_wp2_with fail
                refine (C4.out _ _ _ X_12.out Y_12.out).mono ?_
                rintro e w13 ⟨vz, rfl, ho, hb⟩
                have H_13 := Lib.hid (H_12.out.ext hb)
                have K_13 := Lib.hid (K_12.out.ext hb)
                have M_13 := Lib.hid (M_12.out.ext hb)
                have A_13 := Lib.hid (A_12.out.ext hb)
                have Z_13 := Lib.hid (Sl.of_own ho)
                have B_13 := Lib.hid (B_12.out.trans (hb.mono B_12.out.size))
                clear hb ho X_12 Y_12 H_12 K_12 M_12 A_12 B_12
                obtain ⟨AZ, cZ, hvZ, -, -, -⟩ := id Z_13.out
                subst hvZ
                go_wp2_with fail
                refine (D1.out _ H_13.out).mono ?_
                rintro e w14 ⟨rfl, hb⟩
                have H_14 := Lib.hid (H_13.out.ext hb)
                have K_14 := Lib.hid (K_13.out.ext hb)
                have M_14 := Lib.hid (M_13.out.ext hb)
                have A_14 := Lib.hid (A_13.out.ext hb)
                have Z_14 := Lib.hid (Z_13.out.ext hb)
                have B_14 := Lib.hid (B_13.out.trans (hb.mono B_13.out.size))
                clear hb H_13 K_13 M_13 A_13 Z_13 B_13
                go_wp2_with fail
                refine (D2.out _ H_14.out).mono ?_
                rintro e w15 ⟨rfl, hb⟩
                have H_15 := Lib.hid (H_14.out.ext hb)
                have K_15 := Lib.hid (K_14.out.ext hb)
                have M_15 := Lib.hid (M_14.out.ext hb)
                have A_15 := Lib.hid (A_14.out.ext hb)
                have Z_15 := Lib.hid (Z_14.out.ext hb)
                have B_15 := Lib.hid (B_14.out.trans (hb.mono B_14.out.size))
                clear hb H_14 K_14 M_14 A_14 Z_14 B_14
                go_wp2_with fail
                refine (D3.out _ K_15.out).mono ?_
                rintro e w16 ⟨rfl, hb⟩
                have H_16 := Lib.hid (H_15.out.ext hb)
                have K_16 := Lib.hid (K_15.out.ext hb)
                have M_16 := Lib.hid (M_15.out.ext hb)
                have A_16 := Lib.hid (A_15.out.ext hb)
                have Z_16 := Lib.hid (Z_15.out.ext hb)
                have B_16 := Lib.hid (B_15.out.trans (hb.mono B_15.out.size))
                clear hb H_15 K_15 M_15 A_15 Z_15 B_15
                go_wp2_with fail
                refine (D4.out _ M_16.out).mono ?_
                rintro e w17 ⟨rfl, hb⟩
                have H_17 := Lib.hid (H_16.out.ext hb)
                have K_17 := Lib.hid (K_16.out.ext hb)
                have M_17 := Lib.hid (M_16.out.ext hb)
                have A_17 := Lib.hid (A_16.out.ext hb)
                have Z_17 := Lib.hid (Z_16.out.ext hb)
                have B_17 := Lib.hid (B_16.out.trans (hb.mono B_16.out.size))
                clear hb H_16 K_16 M_16 A_16 Z_16 B_16
                clear K_17
                clear M_17
                go_wp2_with fail
                refine (cA.out _ _ H_17.out).mono ?_
                rintro e w18 ⟨x17, rfl, ho, hb⟩
                have H_18 := Lib.hid (H_17.out.ext hb)
                have A_18 := Lib.hid (A_17.out.ext hb)
                have Z_18 := Lib.hid (Z_17.out.ext hb)
                have D_18 := Lib.hid (Sl.of_own ho)
                have B_18 := Lib.hid (B_17.out.trans (hb.mono B_17.out.size))
                clear hb ho H_17 A_17 Z_17 B_17
                obtain ⟨A17, c17, hv17, -, -, -⟩ := id D_18.out
                subst hv17
                have SL := Lib.hid (sll_one 22 Z_18.out)
                have H_18a := Lib.hid (H_18.out.alloc (.cells #[.slice AZ Z.length cZ] 22))
                have A_18a := Lib.hid (A_18.out.alloc (.cells #[.slice AZ Z.length cZ] 22))
                have Z_18a := Lib.hid (Z_18.out.alloc (.cells #[.slice AZ Z.length cZ] 22))
                have D_18a := Lib.hid (D_18.out.alloc (.cells #[.slice AZ Z.length cZ] 22))
                have B_18a := Lib.hid (B_18.out.alloc B_18.out.size (.cells #[.slice AZ Z.length cZ] 22))
                clear H_18 A_18 Z_18 D_18 B_18
                go_wp2_with fail
                refine (C5.out _ _ _ D_18a.out SL.out).mono ?_
                rintro e w19 ⟨vw, rfl, ho, hb⟩
                have H_19 := Lib.hid (H_18a.out.ext hb)
                have A_19 := Lib.hid (A_18a.out.ext hb)
                have Ww_19 := Lib.hid (Sl.of_own ho)
                have B_19 := Lib.hid (B_18a.out.trans (hb.mono B_18a.out.size))
                clear hb ho D_18a Z_18a H_18a A_18a B_18a
                clear SL
                go_wp2_with fail
                refine (same_any _ _ R R _ Ww_19.out A_19.out).mono ?_
                rintro e w20 ⟨rfl, hb⟩
                have H_20 := Lib.hid (H_19.out.ext hb)
                have B_20 := Lib.hid (B_19.out.trans (hb.mono B_19.out.size))
                clear hb Ww_19 A_19 H_19 B_19
                rw [sameB_refl R]
                go_wp2_with fail
                refine (known7_any _).mono ?_
                rintro e w21 ⟨rfl, hb⟩
                have B_21 := Lib.hid (B_20.out.trans (hb.mono B_20.out.size))
                clear hb H_20 B_20
                go_wp2
                go_ret
                exact ⟨rfl, B_21.out⟩
              | false =>
                rw [hf4] at d4
                generalize rebR l [l', l''] = R at *
                generalize rebR l [l'] = RB at *
                generalize cmpR l' l'' = Z at *
                have C1 := Lib.hid c1; have C2 := Lib.hid c2; have C3 := Lib.hid c3; have C4 := Lib.hid c4; have C5 := Lib.hid c5
                have D1 := Lib.hid d1
                have D2 := Lib.hid d2
                have D3 := Lib.hid d3
                have D4 := Lib.hid d4
                clear c1 c2 c3 c4 c5 mem1 mem2 f1 f2 s1 s2 h0 h1 h2 h h' h'' hd hd' hd'' hl hl' hl'' key k1 k2 k3 k4 d1 d2 d3 d4
                go_enter Try.func18, Try.ntmps18
                go_wp2_with fail
                refine (cA.out _ _ H.out).mono ?_
                rintro e w1 ⟨x0, rfl, ho, hb⟩
                have H_1 := Lib.hid (H.out.ext hb)
                have K_1 := Lib.hid (K.out.ext hb)
                have M_1 := Lib.hid (M.out.ext hb)
                have D_1 := Lib.hid (Sl.of_own ho)
                have B_1 := Lib.hid hb
                clear hb ho H K M
                obtain ⟨A0, c0, hv0, -, -, -⟩ := id D_1.out
                subst hv0
                go_wp2_with fail
                refine (cB.out _ _ K_1.out).mono ?_
                rintro e w2 ⟨x1, rfl, ho, hb⟩
                have H_2 := Lib.hid (H_1.out.ext hb)
                have K_2 := Lib.hid (K_1.out.ext hb)
                have M_2 := Lib.hid (M_1.out.ext hb)
                have D_2 := Lib.hid (D_1.out.ext hb)
                have X_2 := Lib.hid (Sl.of_own ho)
                have B_2 := Lib.hid (B_1.out.trans (hb.mono B_1.out.size))
                clear hb ho H_1 K_1 M_1 D_1 B_1
                obtain ⟨A1, c1, hv1, -, -, -⟩ := id X_2.out
                subst hv1
                go_wp2_with fail
                refine (cC.out _ _ M_2.out).mono ?_
                rintro e w3 ⟨x2, rfl, ho, hb⟩
                have H_3 := Lib.hid (H_2.out.ext hb)
                have K_3 := Lib.hid (K_2.out.ext hb)
                have M_3 := Lib.hid (M_2.out.ext hb)
                have D_3 := Lib.hid (D_2.out.ext hb)
                have X_3 := Lib.hid (X_2.out.ext hb)
                have Y_3 := Lib.hid (Sl.of_own ho)
                have B_3 := Lib.hid (B_2.out.trans (hb.mono B_2.out.size))
                clear hb ho H_2 K_2 M_2 D_2 X_2 B_2
                obtain ⟨A2, c2, hv2, -, -, -⟩ := id Y_3.out
                subst hv2
                have SL := Lib.hid (sll_two 22 X_3.out Y_3.out)
                have H_3a := Lib.hid (H_3.out.alloc (.cells #[.slice A1 l'.length c1, .slice A2 l''.length c2] 22))
                have K_3a := Lib.hid (K_3.out.alloc (.cells #[.slice A1 l'.length c1, .slice A2 l''.length c2] 22))
                have M_3a := Lib.hid (M_3.out.alloc (.cells #[.slice A1 l'.length c1, .slice A2 l''.length c2] 22))
                have D_3a := Lib.hid (D_3.out.alloc (.cells #[.slice A1 l'.length c1, .slice A2 l''.length c2] 22))
                have X_3a := Lib.hid (X_3.out.alloc (.cells #[.slice A1 l'.length c1, .slice A2 l''.length c2] 22))
                have Y_3a := Lib.hid (Y_3.out.alloc (.cells #[.slice A1 l'.length c1, .slice A2 l''.length c2] 22))
                have B_3a := Lib.hid (B_3.out.alloc B_3.out.size (.cells #[.slice A1 l'.length c1, .slice A2 l''.length c2] 22))
                clear H_3 K_3 M_3 D_3 X_3 Y_3 B_3
                go_wp2_with fail
                refine (C1.out _ _ _ D_3a.out SL.out).mono ?_
                rintro e w4 ⟨va, rfl, ho, hb⟩
                have H_4 := Lib.hid (H_3a.out.ext hb)
                have K_4 := Lib.hid (K_3a.out.ext hb)
                have M_4 := Lib.hid (M_3a.out.ext hb)
                have A_4 := Lib.hid (Sl.of_own ho)
                have B_4 := Lib.hid (B_3a.out.trans (hb.mono B_3a.out.size))
                clear hb ho D_3a X_3a Y_3a H_3a K_3a M_3a B_3a
                obtain ⟨AA, cA_, hvA, -, -, -⟩ := id A_4.out
                subst hvA
                clear SL
                go_wp2_with fail
                refine (cA.out _ _ H_4.out).mono ?_
                rintro e w5 ⟨x4, rfl, ho, hb⟩
                have H_5 := Lib.hid (H_4.out.ext hb)
                have K_5 := Lib.hid (K_4.out.ext hb)
                have M_5 := Lib.hid (M_4.out.ext hb)
                have A_5 := Lib.hid (A_4.out.ext hb)
                have D_5 := Lib.hid (Sl.of_own ho)
                have B_5 := Lib.hid (B_4.out.trans (hb.mono B_4.out.size))
                clear hb ho H_4 K_4 M_4 A_4 B_4
                obtain ⟨A4, c4, hv4, -, -, -⟩ := id D_5.out
                subst hv4
                go_wp2_with fail
                refine (cB.out _ _ K_5.out).mono ?_
                rintro e w6 ⟨x5, rfl, ho, hb⟩
                have H_6 := Lib.hid (H_5.out.ext hb)
                have K_6 := Lib.hid (K_5.out.ext hb)
                have M_6 := Lib.hid (M_5.out.ext hb)
                have A_6 := Lib.hid (A_5.out.ext hb)
                have D_6 := Lib.hid (D_5.out.ext hb)
                have X_6 := Lib.hid (Sl.of_own ho)
                have B_6 := Lib.hid (B_5.out.trans (hb.mono B_5.out.size))
                clear hb ho H_5 K_5 M_5 A_5 D_5 B_5
                obtain ⟨A5, c5, hv5, -, -, -⟩ := id X_6.out
                subst hv5
                have SL := Lib.hid (sll_one 22 X_6.out)
                have H_6a := Lib.hid (H_6.out.alloc (.cells #[.slice A5 l'.length c5] 22))
                have K_6a := Lib.hid (K_6.out.alloc (.cells #[.slice A5 l'.length c5] 22))
                have M_6a := Lib.hid (M_6.out.alloc (.cells #[.slice A5 l'.length c5] 22))
                have A_6a := Lib.hid (A_6.out.alloc (.cells #[.slice A5 l'.length c5] 22))
                have D_6a := Lib.hid (D_6.out.alloc (.cells #[.slice A5 l'.length c5] 22))
                have X_6a := Lib.hid (X_6.out.alloc (.cells #[.slice A5 l'.length c5] 22))
                have B_6a := Lib.hid (B_6.out.alloc B_6.out.size (.cells #[.slice A5 l'.length c5] 22))
                clear H_6 K_6 M_6 A_6 D_6 X_6 B_6
                go_wp2_with fail
                refine (C2.out _ _ _ D_6a.out SL.out).mono ?_
                rintro e w7 ⟨vb, rfl, ho, hb⟩
                have H_7 := Lib.hid (H_6a.out.ext hb)
                have K_7 := Lib.hid (K_6a.out.ext hb)
                have M_7 := Lib.hid (M_6a.out.ext hb)
                have A_7 := Lib.hid (A_6a.out.ext hb)
                have Bb_7 := Lib.hid (Sl.of_own ho)
                have B_7 := Lib.hid (B_6a.out.trans (hb.mono B_6a.out.size))
                clear hb ho D_6a X_6a H_6a K_6a M_6a A_6a B_6a
                clear SL
                go_wp2_with fail
                refine (cC.out _ _ M_7.out).mono ?_
                rintro e w8 ⟨x7, rfl, ho, hb⟩
                have H_8 := Lib.hid (H_7.out.ext hb)
                have K_8 := Lib.hid (K_7.out.ext hb)
                have M_8 := Lib.hid (M_7.out.ext hb)
                have A_8 := Lib.hid (A_7.out.ext hb)
                have Bb_8 := Lib.hid (Bb_7.out.ext hb)
                have Y_8 := Lib.hid (Sl.of_own ho)
                have B_8 := Lib.hid (B_7.out.trans (hb.mono B_7.out.size))
                clear hb ho H_7 K_7 M_7 A_7 Bb_7 B_7
                obtain ⟨A7, c7, hv7, -, -, -⟩ := id Y_8.out
                subst hv7
                have SL := Lib.hid (sll_one 22 Y_8.out)
                have H_8a := Lib.hid (H_8.out.alloc (.cells #[.slice A7 l''.length c7] 22))
                have K_8a := Lib.hid (K_8.out.alloc (.cells #[.slice A7 l''.length c7] 22))
                have M_8a := Lib.hid (M_8.out.alloc (.cells #[.slice A7 l''.length c7] 22))
                have A_8a := Lib.hid (A_8.out.alloc (.cells #[.slice A7 l''.length c7] 22))
                have Bb_8a := Lib.hid (Bb_8.out.alloc (.cells #[.slice A7 l''.length c7] 22))
                have Y_8a := Lib.hid (Y_8.out.alloc (.cells #[.slice A7 l''.length c7] 22))
                have B_8a := Lib.hid (B_8.out.alloc B_8.out.size (.cells #[.slice A7 l''.length c7] 22))
                clear H_8 K_8 M_8 A_8 Bb_8 Y_8 B_8
                go_wp2_with fail
                refine (C3.out _ _ _ Bb_8a.out SL.out).mono ?_
                rintro e w9 ⟨vc, rfl, ho, hb⟩
                have H_9 := Lib.hid (H_8a.out.ext hb)
                have K_9 := Lib.hid (K_8a.out.ext hb)
                have M_9 := Lib.hid (M_8a.out.ext hb)
                have A_9 := Lib.hid (A_8a.out.ext hb)
                have C_9 := Lib.hid (Sl.of_own ho)
                have B_9 := Lib.hid (B_8a.out.trans (hb.mono B_8a.out.size))
                clear hb ho Bb_8a Y_8a H_8a K_8a M_8a A_8a B_8a
                clear SL
                go_wp2_with fail
                refine (same_any _ _ R R _ A_9.out C_9.out).mono ?_
                rintro e w10 ⟨rfl, hb⟩
                have H_10 := Lib.hid (H_9.out.ext hb)
                have K_10 := Lib.hid (K_9.out.ext hb)
                have M_10 := Lib.hid (M_9.out.ext hb)
                have A_10 := Lib.hid (A_9.out.ext hb)
                have B_10 := Lib.hid (B_9.out.trans (hb.mono B_9.out.size))
                clear hb C_9 H_9 K_9 M_9 A_9 B_9
                rw [sameB_refl R]
                go_wp2_with fail
                refine (cB.out _ _ K_10.out).mono ?_
                rintro e w11 ⟨x10, rfl, ho, hb⟩
                have H_11 := Lib.hid (H_10.out.ext hb)
                have K_11 := Lib.hid (K_10.out.ext hb)
                have M_11 := Lib.hid (M_10.out.ext hb)
                have A_11 := Lib.hid (A_10.out.ext hb)
                have X_11 := Lib.hid (Sl.of_own ho)
                have B_11 := Lib.hid (B_10.out.trans (hb.mono B_10.out.size))
                clear hb ho H_10 K_10 M_10 A_10 B_10
                obtain ⟨A10, c10, hv10, -, -, -⟩ := id X_11.out
                subst hv10
                go_wp2_with fail
                refine (cC.out _ _ M_11.out).mono ?_
                rintro e w12 ⟨x11, rfl, ho, hb⟩
                have H_12 := Lib.hid (H_11.out.ext hb)
                have K_12 := Lib.hid (K_11.out.ext hb)
                have M_12 := Lib.hid (M_11.out.ext hb)
                have A_12 := Lib.hid (A_11.out.ext hb)
                have X_12 := Lib.hid (X_11.out.ext hb)
                have Y_12 := Lib.hid (Sl.of_own ho)
                have B_12 := Lib.hid (B_11.out.trans (hb.mono B_11.out.size))
                clear hb ho H_11 K_11 M_11 A_11 X_11 B_11
                obtain ⟨A11, c11, hv11, -, -, -⟩ := id Y_12.out
                subst hv11
                go_wp2_with fail
                refine (C4.out _ _ _ X_12.out Y_12.out).mono ?_
                rintro e w13 ⟨vz, rfl, ho, hb⟩
                have H_13 := Lib.hid (H_12.out.ext hb)
                have K_13 := Lib.hid (K_12.out.ext hb)
                have M_13 := Lib.hid (M_12.out.ext hb)
                have A_13 := Lib.hid (A_12.out.ext hb)
                have Z_13 := Lib.hid (Sl.of_own ho)
                have B_13 := Lib.hid (B_12.out.trans (hb.mono B_12.out.size))
                clear hb ho X_12 Y_12 H_12 K_12 M_12 A_12 B_12
                obtain ⟨AZ, cZ, hvZ, -, -, -⟩ := id Z_13.out
                subst hvZ
                go_wp2_with fail
                refine (D1.out _ H_13.out).mono ?_
                rintro e w14 ⟨rfl, hb⟩
                have H_14 := Lib.hid (H_13.out.ext hb)
                have K_14 := Lib.hid (K_13.out.ext hb)
                have M_14 := Lib.hid (M_13.out.ext hb)
                have A_14 := Lib.hid (A_13.out.ext hb)
                have Z_14 := Lib.hid (Z_13.out.ext hb)
                have B_14 := Lib.hid (B_13.out.trans (hb.mono B_13.out.size))
                clear hb H_13 K_13 M_13 A_13 Z_13 B_13
                go_wp2_with fail
                refine (D2.out _ H_14.out).mono ?_
                rintro e w15 ⟨rfl, hb⟩
                have H_15 := Lib.hid (H_14.out.ext hb)
                have K_15 := Lib.hid (K_14.out.ext hb)
                have M_15 := Lib.hid (M_14.out.ext hb)
                have A_15 := Lib.hid (A_14.out.ext hb)
                have Z_15 := Lib.hid (Z_14.out.ext hb)
                have B_15 := Lib.hid (B_14.out.trans (hb.mono B_14.out.size))
                clear hb H_14 K_14 M_14 A_14 Z_14 B_14
                go_wp2_with fail
                refine (D3.out _ K_15.out).mono ?_
                rintro e w16 ⟨rfl, hb⟩
                have H_16 := Lib.hid (H_15.out.ext hb)
                have K_16 := Lib.hid (K_15.out.ext hb)
                have M_16 := Lib.hid (M_15.out.ext hb)
                have A_16 := Lib.hid (A_15.out.ext hb)
                have Z_16 := Lib.hid (Z_15.out.ext hb)
                have B_16 := Lib.hid (B_15.out.trans (hb.mono B_15.out.size))
                clear hb H_15 K_15 M_15 A_15 Z_15 B_15
                go_wp2_with fail
                refine (D4.out _ M_16.out).mono ?_
                rintro e w17 ⟨rfl, hb⟩
                have H_17 := Lib.hid (H_16.out.ext hb)
                have K_17 := Lib.hid (K_16.out.ext hb)
                have M_17 := Lib.hid (M_16.out.ext hb)
                have A_17 := Lib.hid (A_16.out.ext hb)
                have Z_17 := Lib.hid (Z_16.out.ext hb)
                have B_17 := Lib.hid (B_16.out.trans (hb.mono B_16.out.size))
                clear hb H_16 K_16 M_16 A_16 Z_16 B_16
                go_wp2_with fail
                refine (known7_any _).mono ?_
                rintro e w18 ⟨rfl, hb⟩
                have B_18 := Lib.hid (B_17.out.trans (hb.mono B_17.out.size))
                clear hb H_17 K_17 M_17 A_17 Z_17 B_17
                go_wp2
                go_ret
                exact ⟨rfl, B_18.out⟩
      · have hb2 : (cmpE l' l'' != 0) = true := by simpa using h2
        generalize rebR l [l', l''] = R at *
        generalize rebR l [l'] = RB at *
        generalize cmpR l' l'' = Z at *
        generalize cmpE l' l'' = E at *
        have C1 := Lib.hid c1; have C2 := Lib.hid c2; have C3 := Lib.hid c3; have C4 := Lib.hid c4
        clear c1 c2 c3 c4 mem1 mem2 f1 f2 s1 s2 h0 h1 h2 h h' h'' hd hd' hd'' hl hl' hl''
        go_enter Try.func18, Try.ntmps18
        go_wp2_with fail
        refine (cA.out _ _ H.out).mono ?_
        rintro e w1 ⟨x0, rfl, ho, hb⟩
        have H_1 := Lib.hid (H.out.ext hb)
        have K_1 := Lib.hid (K.out.ext hb)
        have M_1 := Lib.hid (M.out.ext hb)
        have D_1 := Lib.hid (Sl.of_own ho)
        have B_1 := Lib.hid hb
        clear hb ho H K M
        obtain ⟨A0, c0, hv0, -, -, -⟩ := id D_1.out
        subst hv0
        go_wp2_with fail
        refine (cB.out _ _ K_1.out).mono ?_
        rintro e w2 ⟨x1, rfl, ho, hb⟩
        have H_2 := Lib.hid (H_1.out.ext hb)
        have K_2 := Lib.hid (K_1.out.ext hb)
        have M_2 := Lib.hid (M_1.out.ext hb)
        have D_2 := Lib.hid (D_1.out.ext hb)
        have X_2 := Lib.hid (Sl.of_own ho)
        have B_2 := Lib.hid (B_1.out.trans (hb.mono B_1.out.size))
        clear hb ho H_1 K_1 M_1 D_1 B_1
        obtain ⟨A1, c1, hv1, -, -, -⟩ := id X_2.out
        subst hv1
        go_wp2_with fail
        refine (cC.out _ _ M_2.out).mono ?_
        rintro e w3 ⟨x2, rfl, ho, hb⟩
        have H_3 := Lib.hid (H_2.out.ext hb)
        have K_3 := Lib.hid (K_2.out.ext hb)
        have M_3 := Lib.hid (M_2.out.ext hb)
        have D_3 := Lib.hid (D_2.out.ext hb)
        have X_3 := Lib.hid (X_2.out.ext hb)
        have Y_3 := Lib.hid (Sl.of_own ho)
        have B_3 := Lib.hid (B_2.out.trans (hb.mono B_2.out.size))
        clear hb ho H_2 K_2 M_2 D_2 X_2 B_2
        obtain ⟨A2, c2, hv2, -, -, -⟩ := id Y_3.out
        subst hv2
        have SL := Lib.hid (sll_two 22 X_3.out Y_3.out)
        have H_3a := Lib.hid (H_3.out.alloc (.cells #[.slice A1 l'.length c1, .slice A2 l''.length c2] 22))
        have K_3a := Lib.hid (K_3.out.alloc (.cells #[.slice A1 l'.length c1, .slice A2 l''.length c2] 22))
        have M_3a := Lib.hid (M_3.out.alloc (.cells #[.slice A1 l'.length c1, .slice A2 l''.length c2] 22))
        have D_3a := Lib.hid (D_3.out.alloc (.cells #[.slice A1 l'.length c1, .slice A2 l''.length c2] 22))
        have X_3a := Lib.hid (X_3.out.alloc (.cells #[.slice A1 l'.length c1, .slice A2 l''.length c2] 22))
        have Y_3a := Lib.hid (Y_3.out.alloc (.cells #[.slice A1 l'.length c1, .slice A2 l''.length c2] 22))
        have B_3a := Lib.hid (B_3.out.alloc B_3.out.size (.cells #[.slice A1 l'.length c1, .slice A2 l''.length c2] 22))
        clear H_3 K_3 M_3 D_3 X_3 Y_3 B_3
        go_wp2_with fail
        refine (C1.out _ _ _ D_3a.out SL.out).mono ?_
        rintro e w4 ⟨va, rfl, ho, hb⟩
        have H_4 := Lib.hid (H_3a.out.ext hb)
        have K_4 := Lib.hid (K_3a.out.ext hb)
        have M_4 := Lib.hid (M_3a.out.ext hb)
        have A_4 := Lib.hid (Sl.of_own ho)
        have B_4 := Lib.hid (B_3a.out.trans (hb.mono B_3a.out.size))
        clear hb ho D_3a X_3a Y_3a H_3a K_3a M_3a B_3a
        obtain ⟨AA, cA_, hvA, -, -, -⟩ := id A_4.out
        subst hvA
        clear SL
        go_wp2_with fail
        refine (cA.out _ _ H_4.out).mono ?_
        rintro e w5 ⟨x4, rfl, ho, hb⟩
        have H_5 := Lib.hid (H_4.out.ext hb)
        have K_5 := Lib.hid (K_4.out.ext hb)
        have M_5 := Lib.hid (M_4.out.ext hb)
        have A_5 := Lib.hid (A_4.out.ext hb)
        have D_5 := Lib.hid (Sl.of_own ho)
        have B_5 := Lib.hid (B_4.out.trans (hb.mono B_4.out.size))
        clear hb ho H_4 K_4 M_4 A_4 B_4
        obtain ⟨A4, c4, hv4, -, -, -⟩ := id D_5.out
        subst hv4
        go_wp2_with fail
        refine (cB.out _ _ K_5.out).mono ?_
        rintro e w6 ⟨x5, rfl, ho, hb⟩
        have H_6 := Lib.hid (H_5.out.ext hb)
        have K_6 := Lib.hid (K_5.out.ext hb)
        have M_6 := Lib.hid (M_5.out.ext hb)
        have A_6 := Lib.hid (A_5.out.ext hb)
        have D_6 := Lib.hid (D_5.out.ext hb)
        have X_6 := Lib.hid (Sl.of_own ho)
        have B_6 := Lib.hid (B_5.out.trans (hb.mono B_5.out.size))
        clear hb ho H_5 K_5 M_5 A_5 D_5 B_5
        obtain ⟨A5, c5, hv5, -, -, -⟩ := id X_6.out
        subst hv5
        have SL := Lib.hid (sll_one 22 X_6.out)
        have H_6a := Lib.hid (H_6.out.alloc (.cells #[.slice A5 l'.length c5] 22))
        have K_6a := Lib.hid (K_6.out.alloc (.cells #[.slice A5 l'.length c5] 22))
        have M_6a := Lib.hid (M_6.out.alloc (.cells #[.slice A5 l'.length c5] 22))
        have A_6a := Lib.hid (A_6.out.alloc (.cells #[.slice A5 l'.length c5] 22))
        have D_6a := Lib.hid (D_6.out.alloc (.cells #[.slice A5 l'.length c5] 22))
        have X_6a := Lib.hid (X_6.out.alloc (.cells #[.slice A5 l'.length c5] 22))
        have B_6a := Lib.hid (B_6.out.alloc B_6.out.size (.cells #[.slice A5 l'.length c5] 22))
        clear H_6 K_6 M_6 A_6 D_6 X_6 B_6
        go_wp2_with fail
        refine (C2.out _ _ _ D_6a.out SL.out).mono ?_
        rintro e w7 ⟨vb, rfl, ho, hb⟩
        have H_7 := Lib.hid (H_6a.out.ext hb)
        have K_7 := Lib.hid (K_6a.out.ext hb)
        have M_7 := Lib.hid (M_6a.out.ext hb)
        have A_7 := Lib.hid (A_6a.out.ext hb)
        have Bb_7 := Lib.hid (Sl.of_own ho)
        have B_7 := Lib.hid (B_6a.out.trans (hb.mono B_6a.out.size))
        clear hb ho D_6a X_6a H_6a K_6a M_6a A_6a B_6a
        clear SL
        go_wp2_with fail
        refine (cC.out _ _ M_7.out).mono ?_
        rintro e w8 ⟨x7, rfl, ho, hb⟩
        have H_8 := Lib.hid (H_7.out.ext hb)
        have K_8 := Lib.hid (K_7.out.ext hb)
        have M_8 := Lib.hid (M_7.out.ext hb)
        have A_8 := Lib.hid (A_7.out.ext hb)
        have Bb_8 := Lib.hid (Bb_7.out.ext hb)
        have Y_8 := Lib.hid (Sl.of_own ho)
        have B_8 := Lib.hid (B_7.out.trans (hb.mono B_7.out.size))
        clear hb ho H_7 K_7 M_7 A_7 Bb_7 B_7
        obtain ⟨A7, c7, hv7, -, -, -⟩ := id Y_8.out
        subst hv7
        have SL := Lib.hid (sll_one 22 Y_8.out)
        have H_8a := Lib.hid (H_8.out.alloc (.cells #[.slice A7 l''.length c7] 22))
        have K_8a := Lib.hid (K_8.out.alloc (.cells #[.slice A7 l''.length c7] 22))
        have M_8a := Lib.hid (M_8.out.alloc (.cells #[.slice A7 l''.length c7] 22))
        have A_8a := Lib.hid (A_8.out.alloc (.cells #[.slice A7 l''.length c7] 22))
        have Bb_8a := Lib.hid (Bb_8.out.alloc (.cells #[.slice A7 l''.length c7] 22))
        have Y_8a := Lib.hid (Y_8.out.alloc (.cells #[.slice A7 l''.length c7] 22))
        have B_8a := Lib.hid (B_8.out.alloc B_8.out.size (.cells #[.slice A7 l''.length c7] 22))
        clear H_8 K_8 M_8 A_8 Bb_8 Y_8 B_8
        go_wp2_with fail
        refine (C3.out _ _ _ Bb_8a.out SL.out).mono ?_
        rintro e w9 ⟨vc, rfl, ho, hb⟩
        have H_9 := Lib.hid (H_8a.out.ext hb)
        have K_9 := Lib.hid (K_8a.out.ext hb)
        have M_9 := Lib.hid (M_8a.out.ext hb)
        have A_9 := Lib.hid (A_8a.out.ext hb)
        have C_9 := Lib.hid (Sl.of_own ho)
        have B_9 := Lib.hid (B_8a.out.trans (hb.mono B_8a.out.size))
        clear hb ho Bb_8a Y_8a H_8a K_8a M_8a A_8a B_8a
        clear SL
        go_wp2_with fail
        refine (same_any _ _ R R _ A_9.out C_9.out).mono ?_
        rintro e w10 ⟨rfl, hb⟩
        have H_10 := Lib.hid (H_9.out.ext hb)
        have K_10 := Lib.hid (K_9.out.ext hb)
        have M_10 := Lib.hid (M_9.out.ext hb)
        have A_10 := Lib.hid (A_9.out.ext hb)
        have B_10 := Lib.hid (B_9.out.trans (hb.mono B_9.out.size))
        clear hb C_9 H_9 K_9 M_9 A_9 B_9
        rw [sameB_refl R]
        go_wp2_with fail
        refine (cB.out _ _ K_10.out).mono ?_
        rintro e w11 ⟨x10, rfl, ho, hb⟩
        have H_11 := Lib.hid (H_10.out.ext hb)
        have K_11 := Lib.hid (K_10.out.ext hb)
        have M_11 := Lib.hid (M_10.out.ext hb)
        have A_11 := Lib.hid (A_10.out.ext hb)
        have X_11 := Lib.hid (Sl.of_own ho)
        have B_11 := Lib.hid (B_10.out.trans (hb.mono B_10.out.size))
        clear hb ho H_10 K_10 M_10 A_10 B_10
        obtain ⟨A10, c10, hv10, -, -, -⟩ := id X_11.out
        subst hv10
        go_wp2_with fail
        refine (cC.out _ _ M_11.out).mono ?_
        rintro e w12 ⟨x11, rfl, ho, hb⟩
        have H_12 := Lib.hid (H_11.out.ext hb)
        have K_12 := Lib.hid (K_11.out.ext hb)
        have M_12 := Lib.hid (M_11.out.ext hb)
        have A_12 := Lib.hid (A_11.out.ext hb)
        have X_12 := Lib.hid (X_11.out.ext hb)
        have Y_12 := Lib.hid (Sl.of_own ho)
        have B_12 := Lib.hid (B_11.out.trans (hb.mono B_11.out.size))
        clear hb ho H_11 K_11 M_11 A_11 X_11 B_11
        obtain ⟨A11, c11, hv11, -, -, -⟩ := id Y_12.out
        subst hv11
        go_wp2_with fail
        refine (C4.out _ _ _ X_12.out Y_12.out).mono ?_
        rintro e w13 ⟨vz, rfl, ho, hb⟩
        have H_13 := Lib.hid (H_12.out.ext hb)
        have K_13 := Lib.hid (K_12.out.ext hb)
        have M_13 := Lib.hid (M_12.out.ext hb)
        have A_13 := Lib.hid (A_12.out.ext hb)
        have Z_13 := Lib.hid (Sl.of_own ho)
        have B_13 := Lib.hid (B_12.out.trans (hb.mono B_12.out.size))
        clear hb ho X_12 Y_12 H_12 K_12 M_12 A_12 B_12
        obtain ⟨AZ, cZ, hvZ, -, -, -⟩ := id Z_13.out
        subst hvZ
        go_wp2_with fail
        refine (known7_any _).mono ?_
        rintro e w14 ⟨rfl, hb⟩
        have B_14 := Lib.hid (B_13.out.trans (hb.mono B_13.out.size))
        clear hb H_13 K_13 M_13 A_13 Z_13 B_13
        go_wp2
        go_ret
        exact ⟨rfl, B_14.out⟩
    · have hb2 : (rebE l [l', l''] != 0) = true := by simpa using h1
      generalize rebR l [l', l''] = R at *
      generalize rebR l [l'] = RB at *
      generalize cmpR l' l'' = Z at *
      generalize rebE l [l', l''] = E at *
      generalize cmpE l' l'' = E2 at *
      have C1 := Lib.hid c1; have C2 := Lib.hid c2; have C3 := Lib.hid c3; have C4 := Lib.hid c4
      clear c1 c2 c3 c4 mem1 mem2 f1 f2 s1 s2 h0 h1 h h' h'' hd hd' hd'' hl hl' hl''
      go_enter Try.func18, Try.ntmps18
      go_wp2_with fail
      refine (cA.out _ _ H.out).mono ?_
      rintro e w1 ⟨x0, rfl, ho, hb⟩
      have H_1 := Lib.hid (H.out.ext hb)
      have K_1 := Lib.hid (K.out.ext hb)
      have M_1 := Lib.hid (M.out.ext hb)
      have D_1 := Lib.hid (Sl.of_own ho)
      have B_1 := Lib.hid hb
      clear hb ho H K M
      obtain ⟨A0, c0, hv0, -, -, -⟩ := id D_1.out
      subst hv0
      go_wp2_with fail
      refine (cB.out _ _ K_1.out).mono ?_
      rintro e w2 ⟨x1, rfl, ho, hb⟩
      have H_2 := Lib.hid (H_1.out.ext hb)
      have K_2 := Lib.hid (K_1.out.ext hb)
      have M_2 := Lib.hid (M_1.out.ext hb)
      have D_2 := Lib.hid (D_1.out.ext hb)
      have X_2 := Lib.hid (Sl.of_own ho)
      have B_2 := Lib.hid (B_1.out.trans (hb.mono B_1.out.size))
      clear hb ho H_1 K_1 M_1 D_1 B_1
      obtain ⟨A1, c1, hv1, -, -, -⟩ := id X_2.out
      subst hv1
      go_wp2_with fail
      refine (cC.out _ _ M_2.out).mono ?_
      rintro e w3 ⟨x2, rfl, ho, hb⟩
      have H_3 := Lib.hid (H_2.out.ext hb)
      have K_3 := Lib.hid (K_2.out.ext hb)
      have M_3 := Lib.hid (M_2.out.ext hb)
      have D_3 := Lib.hid (D_2.out.ext hb)
      have X_3 := Lib.hid (X_2.out.ext hb)
      have Y_3 := Lib.hid (Sl.of_own ho)
      have B_3 := Lib.hid (B_2.out.trans (hb.mono B_2.out.size))
      clear hb ho H_2 K_2 M_2 D_2 X_2 B_2
      obtain ⟨A2, c2, hv2, -, -, -⟩ := id Y_3.out
      subst hv2
      have SL := Lib.hid (sll_two 22 X_3.out Y_3.out)
      have H_3a := Lib.hid (H_3.out.alloc (.cells #[.slice A1 l'.length c1, .slice A2 l''.length c2] 22))
      have K_3a := Lib.hid (K_3.out.alloc (.cells #[.slice A1 l'.length c1, .slice A2 l''.length c2] 22))
      have M_3a := Lib.hid (M_3.out.alloc (.cells #[.slice A1 l'.length c1, .slice A2 l''.length c2] 22))
      have D_3a := Lib.hid (D_3.out.alloc (.cells #[.slice A1 l'.length c1, .slice A2 l''.length c2] 22))
      have X_3a := Lib.hid (X_3.out.alloc (.cells #[.slice A1 l'.length c1, .slice A2 l''.length c2] 22))
      have Y_3a := Lib.hid (Y_3.out.alloc (.cells #[.slice A1 l'.length c1, .slice A2 l''.length c2] 22))
      have B_3a := Lib.hid (B_3.out.alloc B_3.out.size (.cells #[.slice A1 l'.length c1, .slice A2 l''.length c2] 22))
      clear H_3 K_3 M_3 D_3 X_3 Y_3 B_3
      go_wp2_with fail
      refine (C1.out _ _ _ D_3a.out SL.out).mono ?_
      rintro e w4 ⟨va, rfl, ho, hb⟩
      have H_4 := Lib.hid (H_3a.out.ext hb)
      have K_4 := Lib.hid (K_3a.out.ext hb)
      have M_4 := Lib.hid (M_3a.out.ext hb)
      have A_4 := Lib.hid (Sl.of_own ho)
      have B_4 := Lib.hid (B_3a.out.trans (hb.mono B_3a.out.size))
      clear hb ho D_3a X_3a Y_3a H_3a K_3a M_3a B_3a
      obtain ⟨AA, cA_, hvA, -, -, -⟩ := id A_4.out
      subst hvA
      clear SL
      go_wp2_with fail
      refine (cA.out _ _ H_4.out).mono ?_
      rintro e w5 ⟨x4, rfl, ho, hb⟩
      have H_5 := Lib.hid (H_4.out.ext hb)
      have K_5 := Lib.hid (K_4.out.ext hb)
      have M_5 := Lib.hid (M_4.out.ext hb)
      have A_5 := Lib.hid (A_4.out.ext hb)
      have D_5 := Lib.hid (Sl.of_own ho)
      have B_5 := Lib.hid (B_4.out.trans (hb.mono B_4.out.size))
      clear hb ho H_4 K_4 M_4 A_4 B_4
      obtain ⟨A4, c4, hv4, -, -, -⟩ := id D_5.out
      subst hv4
      go_wp2_with fail
      refine (cB.out _ _ K_5.out).mono ?_
      rintro e w6 ⟨x5, rfl, ho, hb⟩
      have H_6 := Lib.hid (H_5.out.ext hb)
      have K_6 := Lib.hid (K_5.out.ext hb)
      have M_6 := Lib.hid (M_5.out.ext hb)
      have A_6 := Lib.hid (A_5.out.ext hb)
      have D_6 := Lib.hid (D_5.out.ext hb)
      have X_6 := Lib.hid (Sl.of_own ho)
      have B_6 := Lib.hid (B_5.out.trans (hb.mono B_5.out.size))
      clear hb ho H_5 K_5 M_5 A_5 D_5 B_5
      obtain ⟨A5, c5, hv5, -, -, -⟩ := id X_6.out
      subst hv5
      have SL := Lib.hid (sll_one 22 X_6.out)
      have H_6a := Lib.hid (H_6.out.alloc (.cells #[.slice A5 l'.length c5] 22))
      have K_6a := Lib.hid (K_6.out.alloc (.cells #[.slice A5 l'.length c5] 22))
      have M_6a := Lib.hid (M_6.out.alloc (.cells #[.slice A5 l'.length c5] 22))
      have A_6a := Lib.hid (A_6.out.alloc (.cells #[.slice A5 l'.length c5] 22))
      have D_6a := Lib.hid (D_6.out.alloc (.cells #[.slice A5 l'.length c5] 22))
      have X_6a := Lib.hid (X_6.out.alloc (.cells #[.slice A5 l'.length c5] 22))
      have B_6a := Lib.hid (B_6.out.alloc B_6.out.size (.cells #[.slice A5 l'.length c5] 22))
      clear H_6 K_6 M_6 A_6 D_6 X_6 B_6
      go_wp2_with fail
      refine (C2.out _ _ _ D_6a.out SL.out).mono ?_
      rintro e w7 ⟨vb, rfl, ho, hb⟩
      have H_7 := Lib.hid (H_6a.out.ext hb)
      have K_7 := Lib.hid (K_6a.out.ext hb)
      have M_7 := Lib.hid (M_6a.out.ext hb)
      have A_7 := Lib.hid (A_6a.out.ext hb)
      have Bb_7 := Lib.hid (Sl.of_own ho)
      have B_7 := Lib.hid (B_6a.out.trans (hb.mono B_6a.out.size))
      clear hb ho D_6a X_6a H_6a K_6a M_6a A_6a B_6a
      clear SL
      go_wp2_with fail
      refine (cC.out _ _ M_7.out).mono ?_
      rintro e w8 ⟨x7, rfl, ho, hb⟩
      have H_8 := Lib.hid (H_7.out.ext hb)
      have K_8 := Lib.hid (K_7.out.ext hb)
      have M_8 := Lib.hid (M_7.out.ext hb)
      have A_8 := Lib.hid (A_7.out.ext hb)
      have Bb_8 := Lib.hid (Bb_7.out.ext hb)
      have Y_8 := Lib.hid (Sl.of_own ho)
      have B_8 := Lib.hid (B_7.out.trans (hb.mono B_7.out.size))
      clear hb ho H_7 K_7 M_7 A_7 Bb_7 B_7
      obtain ⟨A7, c7, hv7, -, -, -⟩ := id Y_8.out
      subst hv7
      have SL := Lib.hid (sll_one 22 Y_8.out)
      have H_8a := Lib.hid (H_8.out.alloc (.cells #[.slice A7 l''.length c7] 22))
      have K_8a := Lib.hid (K_8.out.alloc (.cells #[.slice A7 l''.length c7] 22))
      have M_8a := Lib.hid (M_8.out.alloc (.cells #[.slice A7 l''.length c7] 22))
      have A_8a := Lib.hid (A_8.out.alloc (.cells #[.slice A7 l''.length c7] 22))
      have Bb_8a := Lib.hid (Bb_8.out.alloc (.cells #[.slice A7 l''.length c7] 22))
      have Y_8a := Lib.hid (Y_8.out.alloc (.cells #[.slice A7 l''.length c7] 22))
      have B_8a := Lib.hid (B_8.out.alloc B_8.out.size (.cells #[.slice A7 l''.length c7] 22))
      clear H_8 K_8 M_8 A_8 Bb_8 Y_8 B_8
      go_wp2_with fail
      refine (C3.out _ _ _ Bb_8a.out SL.out).mono ?_
      rintro e w9 ⟨vc, rfl, ho, hb⟩
      have H_9 := Lib.hid (H_8a.out.ext hb)
      have K_9 := Lib.hid (K_8a.out.ext hb)
      have M_9 := Lib.hid (M_8a.out.ext hb)
      have A_9 := Lib.hid (A_8a.out.ext hb)
      have C_9 := Lib.hid (Sl.of_own ho)
      have B_9 := Lib.hid (B_8a.out.trans (hb.mono B_8a.out.size))
      clear hb ho Bb_8a Y_8a H_8a K_8a M_8a A_8a B_8a
      clear SL
      go_wp2_with fail
      refine (same_any _ _ R R _ A_9.out C_9.out).mono ?_
      rintro e w10 ⟨rfl, hb⟩
      have H_10 := Lib.hid (H_9.out.ext hb)
      have K_10 := Lib.hid (K_9.out.ext hb)
      have M_10 := Lib.hid (M_9.out.ext hb)
      have A_10 := Lib.hid (A_9.out.ext hb)
      have B_10 := Lib.hid (B_9.out.trans (hb.mono B_9.out.size))
      clear hb C_9 H_9 K_9 M_9 A_9 B_9
      rw [sameB_refl R]
      go_wp2_with fail
      refine (cB.out _ _ K_10.out).mono ?_
      rintro e w11 ⟨x10, rfl, ho, hb⟩
      have H_11 := Lib.hid (H_10.out.ext hb)
      have K_11 := Lib.hid (K_10.out.ext hb)
      have M_11 := Lib.hid (M_10.out.ext hb)
      have A_11 := Lib.hid (A_10.out.ext hb)
      have X_11 := Lib.hid (Sl.of_own ho)
      have B_11 := Lib.hid (B_10.out.trans (hb.mono B_10.out.size))
      clear hb ho H_10 K_10 M_10 A_10 B_10
      obtain ⟨A10, c10, hv10, -, -, -⟩ := id X_11.out
      subst hv10
      go_wp2_with fail
      refine (cC.out _ _ M_11.out).mono ?_
      rintro e w12 ⟨x11, rfl, ho, hb⟩
      have H_12 := Lib.hid (H_11.out.ext hb)
      have K_12 := Lib.hid (K_11.out.ext hb)
      have M_12 := Lib.hid (M_11.out.ext hb)
      have A_12 := Lib.hid (A_11.out.ext hb)
      have X_12 := Lib.hid (X_11.out.ext hb)
      have Y_12 := Lib.hid (Sl.of_own ho)
      have B_12 := Lib.hid (B_11.out.trans (hb.mono B_11.out.size))
      clear hb ho H_11 K_11 M_11 A_11 X_11 B_11
      obtain ⟨A11, c11, hv11, -, -, -⟩ := id Y_12.out
      subst hv11
      go_wp2_with fail
      refine (C4.out _ _ _ X_12.out Y_12.out).mono ?_
      rintro e w13 ⟨vz, rfl, ho, hb⟩
      have H_13 := Lib.hid (H_12.out.ext hb)
      have K_13 := Lib.hid (K_12.out.ext hb)
      have M_13 := Lib.hid (M_12.out.ext hb)
      have A_13 := Lib.hid (A_12.out.ext hb)
      have Z_13 := Lib.hid (Sl.of_own ho)
      have B_13 := Lib.hid (B_12.out.trans (hb.mono B_12.out.size))
      clear hb ho X_12 Y_12 H_12 K_12 M_12 A_12 B_12
      obtain ⟨AZ, cZ, hvZ, -, -, -⟩ := id Z_13.out
      subst hvZ
      go_wp2_with fail
      refine (known7_any _).mono ?_
      rintro e w14 ⟨rfl, hb⟩
      have B_14 := Lib.hid (B_13.out.trans (hb.mono B_13.out.size))
      clear hb H_13 K_13 M_13 A_13 Z_13 B_13
      go_wp2
      go_ret
      exact ⟨rfl, B_14.out⟩
  · obtain ⟨s1, s2⟩ := reb_bad [l''] h0
    rw [show [l'] ++ [l''] = [l', l''] from rfl] at s1 s2
    have hb2 : (rebE l [l'] != 0) = true := by simpa using h0
    rw [s1, s2] at c1
    generalize rebE l [l'] = E at *
    generalize rebR l [l'] = RB at *
    have C1 := Lib.hid c1; have C2 := Lib.hid c2
    clear c1 c2 mem1 mem2 s1 s2 h0 h h' h'' hd hd' hd'' hl hl' hl''
    go_enter Try.func18, Try.ntmps18
    go_wp2_with fail
    refine (cA.out _ _ H.out).mono ?_
    rintro e w1 ⟨x0, rfl, ho, hb⟩
    have H_1 := Lib.hid (H.out.ext hb)
    have K_1 := Lib.hid (K.out.ext hb)
    have M_1 := Lib.hid (M.out.ext hb)
    have D_1 := Lib.hid (Sl.of_own ho)
    have B_1 := Lib.hid hb
    clear hb ho H K M
    obtain ⟨A0, c0, hv0, -, -, -⟩ := id D_1.out
    subst hv0
    go_wp2_with fail
    refine (cB.out _ _ K_1.out).mono ?_
    rintro e w2 ⟨x1, rfl, ho, hb⟩
    have H_2 := Lib.hid (H_1.out.ext hb)
    have K_2 := Lib.hid (K_1.out.ext hb)
    have M_2 := Lib.hid (M_1.out.ext hb)
    have D_2 := Lib.hid (D_1.out.ext hb)
    have X_2 := Lib.hid (Sl.of_own ho)
    have B_2 := Lib.hid (B_1.out.trans (hb.mono B_1.out.size))
    clear hb ho H_1 K_1 M_1 D_1 B_1
    obtain ⟨A1, c1, hv1, -, -, -⟩ := id X_2.out
    subst hv1
    go_wp2_with fail
    refine (cC.out _ _ M_2.out).mono ?_
    rintro e w3 ⟨x2, rfl, ho, hb⟩
    have H_3 := Lib.hid (H_2.out.ext hb)
    have K_3 := Lib.hid (K_2.out.ext hb)
    have M_3 := Lib.hid (M_2.out.ext hb)
    have D_3 := Lib.hid (D_2.out.ext hb)
    have X_3 := Lib.hid (X_2.out.ext hb)
    have Y_3 := Lib.hid (Sl.of_own ho)
    have B_3 := Lib.hid (B_2.out.trans (hb.mono B_2.out.size))
    clear hb ho H_2 K_2 M_2 D_2 X_2 B_2
    obtain ⟨A2, c2, hv2, -, -, -⟩ := id Y_3.out
    subst hv2
    have SL := Lib.hid (sll_two 22 X_3.out Y_3.out)
    have H_3a := Lib.hid (H_3.out.alloc (.cells #[.slice A1 l'.length c1, .slice A2 l''.length c2] 22))
    have K_3a := Lib.hid (K_3.out.alloc (.cells #[.slice A1 l'.length c1, .slice A2 l''.length c2] 22))
    have M_3a := Lib.hid (M_3.out.alloc (.cells #[.slice A1 l'.length c1, .slice A2 l''.length c2] 22))
    have D_3a := Lib.hid (D_3.out.alloc (.cells #[.slice A1 l'.length c1, .slice A2 l''.length c2] 22))
    have X_3a := Lib.hid (X_3.out.alloc (.cells #[.slice A1 l'.length c1, .slice A2 l''.length c2] 22))
    have Y_3a := Lib.hid (Y_3.out.alloc (.cells #[.slice A1 l'.length c1, .slice A2 l''.length c2] 22))
    have B_3a := Lib.hid (B_3.out.alloc B_3.out.size (.cells #[.slice A1 l'.length c1, .slice A2 l''.length c2] 22))
    clear H_3 K_3 M_3 D_3 X_3 Y_3 B_3
    go_wp2_with fail
    refine (C1.out _ _ _ D_3a.out SL.out).mono ?_
    rintro e w4 ⟨va, rfl, ho, hb⟩
    have H_4 := Lib.hid (H_3a.out.ext hb)
    have K_4 := Lib.hid (K_3a.out.ext hb)
    have M_4 := Lib.hid (M_3a.out.ext hb)
    have A_4 := Lib.hid (Sl.of_own ho)
    have B_4 := Lib.hid (B_3a.out.trans (hb.mono B_3a.out.size))
    clear hb ho D_3a X_3a Y_3a H_3a K_3a M_3a B_3a
    obtain ⟨AA, cA_, hvA, -, -, -⟩ := id A_4.out
    subst hvA
    clear SL
    go_wp2_with fail
    refine (cA.out _ _ H_4.out).mono ?_
    rintro e w5 ⟨x4, rfl, ho, hb⟩
    have H_5 := Lib.hid (H_4.out.ext hb)
    have K_5 := Lib.hid (K_4.out.ext hb)
    have M_5 := Lib.hid (M_4.out.ext hb)
    have A_5 := Lib.hid (A_4.out.ext hb)
    have D_5 := Lib.hid (Sl.of_own ho)
    have B_5 := Lib.hid (B_4.out.trans (hb.mono B_4.out.size))
    clear hb ho H_4 K_4 M_4 A_4 B_4
    obtain ⟨A4, c4, hv4, -, -, -⟩ := id D_5.out
    subst hv4
    go_wp2_with fail
    refine (cB.out _ _ K_5.out).mono ?_
    rintro e w6 ⟨x5, rfl, ho, hb⟩
    have H_6 := Lib.hid (H_5.out.ext hb)
    have K_6 := Lib.hid (K_5.out.ext hb)
    have M_6 := Lib.hid (M_5.out.ext hb)
    have A_6 := Lib.hid (A_5.out.ext hb)
    have D_6 := Lib.hid (D_5.out.ext hb)
    have X_6 := Lib.hid (Sl.of_own ho)
    have B_6 := Lib.hid (B_5.out.trans (hb.mono B_5.out.size))
    clear hb ho H_5 K_5 M_5 A_5 D_5 B_5
    obtain ⟨A5, c5, hv5, -, -, -⟩ := id X_6.out
    subst hv5
    have SL := Lib.hid (sll_one 22 X_6.out)
    have H_6a := Lib.hid (H_6.out.alloc (.cells #[.slice A5 l'.length c5] 22))
    have K_6a := Lib.hid (K_6.out.alloc (.cells #[.slice A5 l'.length c5] 22))
    have M_6a := Lib.hid (M_6.out.alloc (.cells #[.slice A5 l'.length c5] 22))
    have A_6a := Lib.hid (A_6.out.alloc (.cells #[.slice A5 l'.length c5] 22))
    have D_6a := Lib.hid (D_6.out.alloc (.cells #[.slice A5 l'.length c5] 22))
    have X_6a := Lib.hid (X_6.out.alloc (.cells #[.slice A5 l'.length c5] 22))
    have B_6a := Lib.hid (B_6.out.alloc B_6.out.size (.cells #[.slice A5 l'.length c5] 22))
    clear H_6 K_6 M_6 A_6 D_6 X_6 B_6
    go_wp2_with fail
    refine (C2.out _ _ _ D_6a.out SL.out).mono ?_
    rintro e w7 ⟨vb, rfl, ho, hb⟩
    have H_7 := Lib.hid (H_6a.out.ext hb)
    have K_7 := Lib.hid (K_6a.out.ext hb)
    have M_7 := Lib.hid (M_6a.out.ext hb)
    have A_7 := Lib.hid (A_6a.out.ext hb)
    have Bb_7 := Lib.hid (Sl.of_own ho)
    have B_7 := Lib.hid (B_6a.out.trans (hb.mono B_6a.out.size))
    clear hb ho D_6a X_6a H_6a K_6a M_6a A_6a B_6a
    clear SL
    go_wp2_with fail
    refine (known7_any _).mono ?_
    rintro e w8 ⟨rfl, hb⟩
    have B_8 := Lib.hid (B_7.out.trans (hb.mono B_7.out.size))
    clear hb H_7 K_7 M_7 A_7 Bb_7 B_7
    go_wp2
    go_ret
    exact ⟨rfl, B_8.out⟩

end Go.Proofs.Ytdlbjfgpfjcpaaa