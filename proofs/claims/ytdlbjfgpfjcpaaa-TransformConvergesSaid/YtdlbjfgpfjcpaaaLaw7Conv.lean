/- quartolaw07.TransformConverges returns true: the walk. -/
import Derived.Test.YtdlbjfgpfjcpaaaKnown7
import Derived.Test.YtdlbjfgpfjcpaaaKept7
import Derived.Test.YtdlbjfgpfjcpaaaCompose
import Derived.Test.YtdlbjfgpfjcpaaaPlainC3
namespace Go.Proofs.Ytdlbjfgpfjcpaaa
open Go.RowKit

set_option maxHeartbeats 8000000 in
set_option maxRecDepth 100000 in
theorem lawTransformConverges_any (s : List UInt8) (v : Value) (l : List Pc) (v' : Value) (l' : List Pc) (w : World) (hs : s.length ≤ 140737488351232) (h : Sl pcE w v l) (hd : ∀ p, p ∈ l → p.wf) (hl : l.length * 32 ≤ 140737488355328) (h' : Sl pcE w v' l') (hd' : ∀ p, p ∈ l' → p.wf) (hl' : l'.length * 32 ≤ 140737488355328) :
    Calls Try.prog 21 #[.string ⟨s.toArray⟩, v, v'] w fun e w' => e = .returned (.bool true) ∧ Below w.heap.size w w' := by
  have hs' : s.length ≤ 9223372036854775807 := by omega
  have cA := Lib.hid fun w x h => own7_any x l w h hl
  have cB := Lib.hid fun w x h => own7_any x l' w h hl'
  have cF := fun w x h => apply_any s x l w hs' h hd
  have cG := fun w x h => apply_any s x l' w hs' h hd'
  have H := Lib.hid h; have K := Lib.hid h'
  by_cases h0 : fitE s l = 0
  · rw [h0] at cF
    by_cases h1 : fitE s l' = 0
    · rw [h1] at cG
      obtain ⟨f1, f2, f3⟩ := fit_ok h0
      obtain ⟨g1, g2, g3⟩ := fit_ok h1
      have hi : inL l = inL l' := by rw [f3, g3]
      have cP := fun w x y h k => tpair_any x y l l' w h k hd hd'
      by_cases h2 : tpE l l' = 0
      · have t1 : trE true l l' = 0 := by
          unfold tpE at h2
          split at h2
          · assumption
          · contradiction
        have t2 : trE false l' l = 0 := by
          unfold tpE at h2
          rwa [if_pos t1] at h2
        have eA : tpA l l' = trR false l' l := by rw [tpA, if_pos h2]
        have eB : tpB l l' = trR true l l' := by rw [tpB, if_pos h2]
        rw [h2, eA, eB] at cP
        obtain ⟨u1, u2, u3⟩ := tr_apply true h0 h1 t1 t2
        obtain ⟨q1, q2, q3⟩ := tr_conv true t1 t2
        have kk := fun (hc : cmpE l (trR true l l') = 0) (i : Int) (hi : 0 ≤ i) => tr_kept true t1 hc hi
        have eM : merE l l' = cmpE l (trR true l l') := by rw [merE, if_pos t1]
        have rM : merR l l' = cmpR l (trR true l l') := by rw [merR, if_pos t1]
        have wA := wf_tr true l l'
        have wB := wf_tr false l' l
        have lA := len32c (trR_ok t1).2.1
        have lB := len32c (trR_ok t2).2.1
        have x1 : (applyS s l).length ≤ 9223372036854775807 := by
          have e1 := (apply_eq h0).2
          have e2 := ((errL_iff l).1 f1).2.2.2
          omega
        have x2 : (applyS s l').length ≤ 9223372036854775807 := by
          have e1 := (apply_eq h1).2
          have e2 := ((errL_iff l').1 g1).2.2.2
          omega
        have cOA := Lib.hid fun w x h => own7_any x (trR true l l') w h lA
        have cOB := Lib.hid fun w x h => own7_any x (trR false l' l) w h lB
        have cT := fun w x h => apply_any (applyS s l) x (trR true l l') w x1 h wA
        have cU := fun w x h => apply_any (applyS s l') x (trR false l' l) w x2 h wB
        have cC := fun w x y h k => compose_any x y l (trR true l l') w h k hd wA
        have cD := fun w x y h k => compose_any x y l' (trR false l' l) w h k hd' wB
        have cM := fun w x y h k => merge_any x y l l' w h k hd hd'
        rw [u1] at cT
        simp only [Bool.not_true] at u2 u3 q1 q2 q3
        rw [u2, ← u3] at cU
        rw [← q1, ← q2] at cD
        rw [eM, rM] at cM
        clear u1 u2 u3 q1 q2 q3 eM rM wA wB lA lB x1 x2 eA eB t1 t2 h2 hi h0 h1
        generalize applyS (applyS s l) (trR true l l') = TT at *
        generalize applyS s l = TX at *
        generalize applyS s l' = TY at *
        generalize trR true l l' = B2 at *
        generalize trR false l' l = A2 at *
        by_cases hE : cmpE l B2 = 0
        · have kk' := fun (i : Int) (hi : 0 ≤ i) => kk hE i hi
          have hme := (cmpR_ok hE).2.1
          rw [hE] at cC cD cM
          have la := fun w => large_any v l w
          have hsa := smp_of f1
          have hsb := smp_of g1
          have hsm := smp_of hme
          have c1 := fun w h => large_any v l w h hd (fun p hp => by have := (hsa p hp).2.2; omega)
          have c2 := fun w h => large_any v' l' w h hd' (fun p hp => by have := (hsb p hp).2.2; omega)
          have c3 := fun w x h => large_any x (cmpR l B2) w h (wf_err hme) (fun p hp => by have := (hsm p hp).2.2; omega)
          have k1 := fun w h => kept7_any s v l w (by omega) h ⟨f2, formPre_of_lens f1⟩
          have k2 := fun w h => kept7_any s v' l' w (by omega) h ⟨g2, formPre_of_lens g1⟩
          have k3 := fun w x h => kept7_any s x (cmpR l B2) w (by omega) h ⟨(cmpR_ok hE).2.2.1, formPre_of_lens hme⟩
          clear la hsa hsb hsm hme kk hE f1 f2 f3 g1 g2 g3
          generalize atoms 0 l = AA at *
          generalize atoms 0 l' = AB at *
          generalize atoms 0 (cmpR l B2) = AM at *
          generalize cmpR l B2 = M at *
          have CF := Lib.hid cF; have CG := Lib.hid cG; have CP := Lib.hid cP; have CT := Lib.hid cT; have CU := Lib.hid cU; have CC := Lib.hid cC; have CD := Lib.hid cD; have CM := Lib.hid cM; have KK := Lib.hid kk'
          clear cF cG cP cT cU cC cD cM kk' h h' hd hd' hl hl' hs' 
          cases hf1 : largeB l with
          | true =>
            rw [hf1] at c1
            have C1 := Lib.hid c1
            clear c1 c2 c3 k1 k2 k3
            go_enter Try.func21, Try.ntmps21
            go_wp2_with fail
            refine (cA.out _ _ H.out).mono ?_
            rintro e w1 ⟨x0, rfl, ho, hb⟩
            have H_1 := Lib.hid (H.out.ext hb)
            have K_1 := Lib.hid (K.out.ext hb)
            have X_1 := Lib.hid (Sl.of_own ho)
            have B_1 := Lib.hid hb
            clear hb ho H K
            go_wp2_with fail
            refine (CF.out _ _ X_1.out).mono ?_
            rintro e w2 ⟨rfl, hb⟩
            have H_2 := Lib.hid (H_1.out.ext hb)
            have K_2 := Lib.hid (K_1.out.ext hb)
            have B_2 := Lib.hid (B_1.out.trans (hb.mono B_1.out.size))
            clear hb X_1 H_1 K_1 B_1
            go_wp2_with fail
            refine (cB.out _ _ K_2.out).mono ?_
            rintro e w3 ⟨x2, rfl, ho, hb⟩
            have H_3 := Lib.hid (H_2.out.ext hb)
            have K_3 := Lib.hid (K_2.out.ext hb)
            have X_3 := Lib.hid (Sl.of_own ho)
            have B_3 := Lib.hid (B_2.out.trans (hb.mono B_2.out.size))
            clear hb ho H_2 K_2 B_2
            go_wp2_with fail
            refine (CG.out _ _ X_3.out).mono ?_
            rintro e w4 ⟨rfl, hb⟩
            have H_4 := Lib.hid (H_3.out.ext hb)
            have K_4 := Lib.hid (K_3.out.ext hb)
            have B_4 := Lib.hid (B_3.out.trans (hb.mono B_3.out.size))
            clear hb X_3 H_3 K_3 B_3
            go_wp2_with fail
            refine (cA.out _ _ H_4.out).mono ?_
            rintro e w5 ⟨x4, rfl, ho, hb⟩
            have H_5 := Lib.hid (H_4.out.ext hb)
            have K_5 := Lib.hid (K_4.out.ext hb)
            have X_5 := Lib.hid (Sl.of_own ho)
            have B_5 := Lib.hid (B_4.out.trans (hb.mono B_4.out.size))
            clear hb ho H_4 K_4 B_4
            go_wp2_with fail
            refine (cB.out _ _ K_5.out).mono ?_
            rintro e w6 ⟨x5, rfl, ho, hb⟩
            have H_6 := Lib.hid (H_5.out.ext hb)
            have K_6 := Lib.hid (K_5.out.ext hb)
            have X_6 := Lib.hid (X_5.out.ext hb)
            have Y_6 := Lib.hid (Sl.of_own ho)
            have B_6 := Lib.hid (B_5.out.trans (hb.mono B_5.out.size))
            clear hb ho H_5 K_5 X_5 B_5
            go_wp2_with fail
            refine (CP.out _ _ _ X_6.out Y_6.out).mono ?_
            rintro e w7 ⟨va2, vb2, rfl, ho, ho2, hb⟩
            have H_7 := Lib.hid (H_6.out.ext hb)
            have K_7 := Lib.hid (K_6.out.ext hb)
            have A2_7 := Lib.hid (Sl.of_own ho); have B2_7 := Lib.hid (Sl.of_own ho2)
            have B_7 := Lib.hid (B_6.out.trans (hb.mono B_6.out.size))
            clear hb ho ho2 X_6 Y_6 H_6 K_6 B_6
            go_wp2_with fail
            refine (cOA.out _ _ B2_7.out).mono ?_
            rintro e w8 ⟨x7, rfl, ho, hb⟩
            have H_8 := Lib.hid (H_7.out.ext hb)
            have K_8 := Lib.hid (K_7.out.ext hb)
            have A2_8 := Lib.hid (A2_7.out.ext hb)
            have B2_8 := Lib.hid (B2_7.out.ext hb)
            have X_8 := Lib.hid (Sl.of_own ho)
            have B_8 := Lib.hid (B_7.out.trans (hb.mono B_7.out.size))
            clear hb ho H_7 K_7 A2_7 B2_7 B_7
            go_wp2_with fail
            refine (CT.out _ _ X_8.out).mono ?_
            rintro e w9 ⟨rfl, hb⟩
            have H_9 := Lib.hid (H_8.out.ext hb)
            have K_9 := Lib.hid (K_8.out.ext hb)
            have A2_9 := Lib.hid (A2_8.out.ext hb)
            have B2_9 := Lib.hid (B2_8.out.ext hb)
            have B_9 := Lib.hid (B_8.out.trans (hb.mono B_8.out.size))
            clear hb X_8 H_8 K_8 A2_8 B2_8 B_8
            go_wp2_with fail
            refine (cOB.out _ _ A2_9.out).mono ?_
            rintro e w10 ⟨x9, rfl, ho, hb⟩
            have H_10 := Lib.hid (H_9.out.ext hb)
            have K_10 := Lib.hid (K_9.out.ext hb)
            have A2_10 := Lib.hid (A2_9.out.ext hb)
            have B2_10 := Lib.hid (B2_9.out.ext hb)
            have X_10 := Lib.hid (Sl.of_own ho)
            have B_10 := Lib.hid (B_9.out.trans (hb.mono B_9.out.size))
            clear hb ho H_9 K_9 A2_9 B2_9 B_9
            go_wp2_with fail
            refine (CU.out _ _ X_10.out).mono ?_
            rintro e w11 ⟨rfl, hb⟩
            have H_11 := Lib.hid (H_10.out.ext hb)
            have K_11 := Lib.hid (K_10.out.ext hb)
            have A2_11 := Lib.hid (A2_10.out.ext hb)
            have B2_11 := Lib.hid (B2_10.out.ext hb)
            have B_11 := Lib.hid (B_10.out.trans (hb.mono B_10.out.size))
            clear hb X_10 H_10 K_10 A2_10 B2_10 B_10
            go_wp2_with fail
            refine (cA.out _ _ H_11.out).mono ?_
            rintro e w12 ⟨x11, rfl, ho, hb⟩
            have H_12 := Lib.hid (H_11.out.ext hb)
            have K_12 := Lib.hid (K_11.out.ext hb)
            have A2_12 := Lib.hid (A2_11.out.ext hb)
            have B2_12 := Lib.hid (B2_11.out.ext hb)
            have X_12 := Lib.hid (Sl.of_own ho)
            have B_12 := Lib.hid (B_11.out.trans (hb.mono B_11.out.size))
            clear hb ho H_11 K_11 A2_11 B2_11 B_11
            go_wp2_with fail
            refine (CC.out _ _ _ X_12.out B2_12.out).mono ?_
            rintro e w13 ⟨vc, rfl, ho, hb⟩
            have H_13 := Lib.hid (H_12.out.ext hb)
            have K_13 := Lib.hid (K_12.out.ext hb)
            have A2_13 := Lib.hid (A2_12.out.ext hb)
            have C_13 := Lib.hid (Sl.of_own ho)
            have B_13 := Lib.hid (B_12.out.trans (hb.mono B_12.out.size))
            clear hb ho X_12 B2_12 H_12 K_12 A2_12 B_12
            go_wp2_with fail
            refine (cB.out _ _ K_13.out).mono ?_
            rintro e w14 ⟨x13, rfl, ho, hb⟩
            have H_14 := Lib.hid (H_13.out.ext hb)
            have K_14 := Lib.hid (K_13.out.ext hb)
            have A2_14 := Lib.hid (A2_13.out.ext hb)
            have C_14 := Lib.hid (C_13.out.ext hb)
            have X_14 := Lib.hid (Sl.of_own ho)
            have B_14 := Lib.hid (B_13.out.trans (hb.mono B_13.out.size))
            clear hb ho H_13 K_13 A2_13 C_13 B_13
            go_wp2_with fail
            refine (CD.out _ _ _ X_14.out A2_14.out).mono ?_
            rintro e w15 ⟨vd, rfl, ho, hb⟩
            have H_15 := Lib.hid (H_14.out.ext hb)
            have K_15 := Lib.hid (K_14.out.ext hb)
            have C_15 := Lib.hid (C_14.out.ext hb)
            have D_15 := Lib.hid (Sl.of_own ho)
            have B_15 := Lib.hid (B_14.out.trans (hb.mono B_14.out.size))
            clear hb ho X_14 A2_14 H_14 K_14 C_14 B_14
            go_wp2_with fail
            refine (cA.out _ _ H_15.out).mono ?_
            rintro e w16 ⟨x15, rfl, ho, hb⟩
            have H_16 := Lib.hid (H_15.out.ext hb)
            have K_16 := Lib.hid (K_15.out.ext hb)
            have C_16 := Lib.hid (C_15.out.ext hb)
            have D_16 := Lib.hid (D_15.out.ext hb)
            have X_16 := Lib.hid (Sl.of_own ho)
            have B_16 := Lib.hid (B_15.out.trans (hb.mono B_15.out.size))
            clear hb ho H_15 K_15 C_15 D_15 B_15
            go_wp2_with fail
            refine (cB.out _ _ K_16.out).mono ?_
            rintro e w17 ⟨x16, rfl, ho, hb⟩
            have H_17 := Lib.hid (H_16.out.ext hb)
            have K_17 := Lib.hid (K_16.out.ext hb)
            have C_17 := Lib.hid (C_16.out.ext hb)
            have D_17 := Lib.hid (D_16.out.ext hb)
            have X_17 := Lib.hid (X_16.out.ext hb)
            have Y_17 := Lib.hid (Sl.of_own ho)
            have B_17 := Lib.hid (B_16.out.trans (hb.mono B_16.out.size))
            clear hb ho H_16 K_16 C_16 D_16 X_16 B_16
            go_wp2_with fail
            refine (CM.out _ _ _ X_17.out Y_17.out).mono ?_
            rintro e w18 ⟨vm, rfl, ho, hb⟩
            have H_18 := Lib.hid (H_17.out.ext hb)
            have K_18 := Lib.hid (K_17.out.ext hb)
            have C_18 := Lib.hid (C_17.out.ext hb)
            have D_18 := Lib.hid (D_17.out.ext hb)
            have M_18 := Lib.hid (Sl.of_own ho)
            have B_18 := Lib.hid (B_17.out.trans (hb.mono B_17.out.size))
            clear hb ho X_17 Y_17 H_17 K_17 C_17 D_17 B_17
            go_wp2_with fail
            refine (same_any _ _ M M _ C_18.out D_18.out).mono ?_
            rintro e w19 ⟨rfl, hb⟩
            have H_19 := Lib.hid (H_18.out.ext hb)
            have K_19 := Lib.hid (K_18.out.ext hb)
            have C_19 := Lib.hid (C_18.out.ext hb)
            have M_19 := Lib.hid (M_18.out.ext hb)
            have B_19 := Lib.hid (B_18.out.trans (hb.mono B_18.out.size))
            clear hb D_18 H_18 K_18 C_18 M_18 B_18
            rw [sameB_refl M]
            go_wp2_with fail
            refine (same_any _ _ M M _ C_19.out M_19.out).mono ?_
            rintro e w20 ⟨rfl, hb⟩
            have H_20 := Lib.hid (H_19.out.ext hb)
            have K_20 := Lib.hid (K_19.out.ext hb)
            have M_20 := Lib.hid (M_19.out.ext hb)
            have B_20 := Lib.hid (B_19.out.trans (hb.mono B_19.out.size))
            clear hb C_19 H_19 K_19 M_19 B_19
            rw [sameB_refl M]
            go_wp2_with fail
            refine (C1.out _ H_20.out).mono ?_
            rintro e w21 ⟨rfl, hb⟩
            have H_21 := Lib.hid (H_20.out.ext hb)
            have K_21 := Lib.hid (K_20.out.ext hb)
            have M_21 := Lib.hid (M_20.out.ext hb)
            have B_21 := Lib.hid (B_20.out.trans (hb.mono B_20.out.size))
            clear hb H_20 K_20 M_20 B_20
            go_wp2_with fail
            refine (known7_any _).mono ?_
            rintro e w22 ⟨rfl, hb⟩
            have B_22 := Lib.hid (B_21.out.trans (hb.mono B_21.out.size))
            clear hb H_21 K_21 M_21 B_21
            go_wp2
            go_ret
            exact ⟨rfl, B_22.out⟩
          | false =>
            rw [hf1] at c1
            cases hf2 : largeB l' with
            | true =>
              rw [hf2] at c2
              have C1 := Lib.hid c1
              have C2 := Lib.hid c2
              clear c1 c2 c3 k1 k2 k3
              go_enter Try.func21, Try.ntmps21
              go_wp2_with fail
              refine (cA.out _ _ H.out).mono ?_
              rintro e w1 ⟨x0, rfl, ho, hb⟩
              have H_1 := Lib.hid (H.out.ext hb)
              have K_1 := Lib.hid (K.out.ext hb)
              have X_1 := Lib.hid (Sl.of_own ho)
              have B_1 := Lib.hid hb
              clear hb ho H K
              go_wp2_with fail
              refine (CF.out _ _ X_1.out).mono ?_
              rintro e w2 ⟨rfl, hb⟩
              have H_2 := Lib.hid (H_1.out.ext hb)
              have K_2 := Lib.hid (K_1.out.ext hb)
              have B_2 := Lib.hid (B_1.out.trans (hb.mono B_1.out.size))
              clear hb X_1 H_1 K_1 B_1
              go_wp2_with fail
              refine (cB.out _ _ K_2.out).mono ?_
              rintro e w3 ⟨x2, rfl, ho, hb⟩
              have H_3 := Lib.hid (H_2.out.ext hb)
              have K_3 := Lib.hid (K_2.out.ext hb)
              have X_3 := Lib.hid (Sl.of_own ho)
              have B_3 := Lib.hid (B_2.out.trans (hb.mono B_2.out.size))
              clear hb ho H_2 K_2 B_2
              go_wp2_with fail
              refine (CG.out _ _ X_3.out).mono ?_
              rintro e w4 ⟨rfl, hb⟩
              have H_4 := Lib.hid (H_3.out.ext hb)
              have K_4 := Lib.hid (K_3.out.ext hb)
              have B_4 := Lib.hid (B_3.out.trans (hb.mono B_3.out.size))
              clear hb X_3 H_3 K_3 B_3
              go_wp2_with fail
              refine (cA.out _ _ H_4.out).mono ?_
              rintro e w5 ⟨x4, rfl, ho, hb⟩
              have H_5 := Lib.hid (H_4.out.ext hb)
              have K_5 := Lib.hid (K_4.out.ext hb)
              have X_5 := Lib.hid (Sl.of_own ho)
              have B_5 := Lib.hid (B_4.out.trans (hb.mono B_4.out.size))
              clear hb ho H_4 K_4 B_4
              go_wp2_with fail
              refine (cB.out _ _ K_5.out).mono ?_
              rintro e w6 ⟨x5, rfl, ho, hb⟩
              have H_6 := Lib.hid (H_5.out.ext hb)
              have K_6 := Lib.hid (K_5.out.ext hb)
              have X_6 := Lib.hid (X_5.out.ext hb)
              have Y_6 := Lib.hid (Sl.of_own ho)
              have B_6 := Lib.hid (B_5.out.trans (hb.mono B_5.out.size))
              clear hb ho H_5 K_5 X_5 B_5
              go_wp2_with fail
              refine (CP.out _ _ _ X_6.out Y_6.out).mono ?_
              rintro e w7 ⟨va2, vb2, rfl, ho, ho2, hb⟩
              have H_7 := Lib.hid (H_6.out.ext hb)
              have K_7 := Lib.hid (K_6.out.ext hb)
              have A2_7 := Lib.hid (Sl.of_own ho); have B2_7 := Lib.hid (Sl.of_own ho2)
              have B_7 := Lib.hid (B_6.out.trans (hb.mono B_6.out.size))
              clear hb ho ho2 X_6 Y_6 H_6 K_6 B_6
              go_wp2_with fail
              refine (cOA.out _ _ B2_7.out).mono ?_
              rintro e w8 ⟨x7, rfl, ho, hb⟩
              have H_8 := Lib.hid (H_7.out.ext hb)
              have K_8 := Lib.hid (K_7.out.ext hb)
              have A2_8 := Lib.hid (A2_7.out.ext hb)
              have B2_8 := Lib.hid (B2_7.out.ext hb)
              have X_8 := Lib.hid (Sl.of_own ho)
              have B_8 := Lib.hid (B_7.out.trans (hb.mono B_7.out.size))
              clear hb ho H_7 K_7 A2_7 B2_7 B_7
              go_wp2_with fail
              refine (CT.out _ _ X_8.out).mono ?_
              rintro e w9 ⟨rfl, hb⟩
              have H_9 := Lib.hid (H_8.out.ext hb)
              have K_9 := Lib.hid (K_8.out.ext hb)
              have A2_9 := Lib.hid (A2_8.out.ext hb)
              have B2_9 := Lib.hid (B2_8.out.ext hb)
              have B_9 := Lib.hid (B_8.out.trans (hb.mono B_8.out.size))
              clear hb X_8 H_8 K_8 A2_8 B2_8 B_8
              go_wp2_with fail
              refine (cOB.out _ _ A2_9.out).mono ?_
              rintro e w10 ⟨x9, rfl, ho, hb⟩
              have H_10 := Lib.hid (H_9.out.ext hb)
              have K_10 := Lib.hid (K_9.out.ext hb)
              have A2_10 := Lib.hid (A2_9.out.ext hb)
              have B2_10 := Lib.hid (B2_9.out.ext hb)
              have X_10 := Lib.hid (Sl.of_own ho)
              have B_10 := Lib.hid (B_9.out.trans (hb.mono B_9.out.size))
              clear hb ho H_9 K_9 A2_9 B2_9 B_9
              go_wp2_with fail
              refine (CU.out _ _ X_10.out).mono ?_
              rintro e w11 ⟨rfl, hb⟩
              have H_11 := Lib.hid (H_10.out.ext hb)
              have K_11 := Lib.hid (K_10.out.ext hb)
              have A2_11 := Lib.hid (A2_10.out.ext hb)
              have B2_11 := Lib.hid (B2_10.out.ext hb)
              have B_11 := Lib.hid (B_10.out.trans (hb.mono B_10.out.size))
              clear hb X_10 H_10 K_10 A2_10 B2_10 B_10
              go_wp2_with fail
              refine (cA.out _ _ H_11.out).mono ?_
              rintro e w12 ⟨x11, rfl, ho, hb⟩
              have H_12 := Lib.hid (H_11.out.ext hb)
              have K_12 := Lib.hid (K_11.out.ext hb)
              have A2_12 := Lib.hid (A2_11.out.ext hb)
              have B2_12 := Lib.hid (B2_11.out.ext hb)
              have X_12 := Lib.hid (Sl.of_own ho)
              have B_12 := Lib.hid (B_11.out.trans (hb.mono B_11.out.size))
              clear hb ho H_11 K_11 A2_11 B2_11 B_11
              go_wp2_with fail
              refine (CC.out _ _ _ X_12.out B2_12.out).mono ?_
              rintro e w13 ⟨vc, rfl, ho, hb⟩
              have H_13 := Lib.hid (H_12.out.ext hb)
              have K_13 := Lib.hid (K_12.out.ext hb)
              have A2_13 := Lib.hid (A2_12.out.ext hb)
              have C_13 := Lib.hid (Sl.of_own ho)
              have B_13 := Lib.hid (B_12.out.trans (hb.mono B_12.out.size))
              clear hb ho X_12 B2_12 H_12 K_12 A2_12 B_12
              go_wp2_with fail
              refine (cB.out _ _ K_13.out).mono ?_
              rintro e w14 ⟨x13, rfl, ho, hb⟩
              have H_14 := Lib.hid (H_13.out.ext hb)
              have K_14 := Lib.hid (K_13.out.ext hb)
              have A2_14 := Lib.hid (A2_13.out.ext hb)
              have C_14 := Lib.hid (C_13.out.ext hb)
              have X_14 := Lib.hid (Sl.of_own ho)
              have B_14 := Lib.hid (B_13.out.trans (hb.mono B_13.out.size))
              clear hb ho H_13 K_13 A2_13 C_13 B_13
              go_wp2_with fail
              refine (CD.out _ _ _ X_14.out A2_14.out).mono ?_
              rintro e w15 ⟨vd, rfl, ho, hb⟩
              have H_15 := Lib.hid (H_14.out.ext hb)
              have K_15 := Lib.hid (K_14.out.ext hb)
              have C_15 := Lib.hid (C_14.out.ext hb)
              have D_15 := Lib.hid (Sl.of_own ho)
              have B_15 := Lib.hid (B_14.out.trans (hb.mono B_14.out.size))
              clear hb ho X_14 A2_14 H_14 K_14 C_14 B_14
              go_wp2_with fail
              refine (cA.out _ _ H_15.out).mono ?_
              rintro e w16 ⟨x15, rfl, ho, hb⟩
              have H_16 := Lib.hid (H_15.out.ext hb)
              have K_16 := Lib.hid (K_15.out.ext hb)
              have C_16 := Lib.hid (C_15.out.ext hb)
              have D_16 := Lib.hid (D_15.out.ext hb)
              have X_16 := Lib.hid (Sl.of_own ho)
              have B_16 := Lib.hid (B_15.out.trans (hb.mono B_15.out.size))
              clear hb ho H_15 K_15 C_15 D_15 B_15
              go_wp2_with fail
              refine (cB.out _ _ K_16.out).mono ?_
              rintro e w17 ⟨x16, rfl, ho, hb⟩
              have H_17 := Lib.hid (H_16.out.ext hb)
              have K_17 := Lib.hid (K_16.out.ext hb)
              have C_17 := Lib.hid (C_16.out.ext hb)
              have D_17 := Lib.hid (D_16.out.ext hb)
              have X_17 := Lib.hid (X_16.out.ext hb)
              have Y_17 := Lib.hid (Sl.of_own ho)
              have B_17 := Lib.hid (B_16.out.trans (hb.mono B_16.out.size))
              clear hb ho H_16 K_16 C_16 D_16 X_16 B_16
              go_wp2_with fail
              refine (CM.out _ _ _ X_17.out Y_17.out).mono ?_
              rintro e w18 ⟨vm, rfl, ho, hb⟩
              have H_18 := Lib.hid (H_17.out.ext hb)
              have K_18 := Lib.hid (K_17.out.ext hb)
              have C_18 := Lib.hid (C_17.out.ext hb)
              have D_18 := Lib.hid (D_17.out.ext hb)
              have M_18 := Lib.hid (Sl.of_own ho)
              have B_18 := Lib.hid (B_17.out.trans (hb.mono B_17.out.size))
              clear hb ho X_17 Y_17 H_17 K_17 C_17 D_17 B_17
              go_wp2_with fail
              refine (same_any _ _ M M _ C_18.out D_18.out).mono ?_
              rintro e w19 ⟨rfl, hb⟩
              have H_19 := Lib.hid (H_18.out.ext hb)
              have K_19 := Lib.hid (K_18.out.ext hb)
              have C_19 := Lib.hid (C_18.out.ext hb)
              have M_19 := Lib.hid (M_18.out.ext hb)
              have B_19 := Lib.hid (B_18.out.trans (hb.mono B_18.out.size))
              clear hb D_18 H_18 K_18 C_18 M_18 B_18
              rw [sameB_refl M]
              go_wp2_with fail
              refine (same_any _ _ M M _ C_19.out M_19.out).mono ?_
              rintro e w20 ⟨rfl, hb⟩
              have H_20 := Lib.hid (H_19.out.ext hb)
              have K_20 := Lib.hid (K_19.out.ext hb)
              have M_20 := Lib.hid (M_19.out.ext hb)
              have B_20 := Lib.hid (B_19.out.trans (hb.mono B_19.out.size))
              clear hb C_19 H_19 K_19 M_19 B_19
              rw [sameB_refl M]
              go_wp2_with fail
              refine (C1.out _ H_20.out).mono ?_
              rintro e w21 ⟨rfl, hb⟩
              have H_21 := Lib.hid (H_20.out.ext hb)
              have K_21 := Lib.hid (K_20.out.ext hb)
              have M_21 := Lib.hid (M_20.out.ext hb)
              have B_21 := Lib.hid (B_20.out.trans (hb.mono B_20.out.size))
              clear hb H_20 K_20 M_20 B_20
              go_wp2_with fail
              refine (C2.out _ K_21.out).mono ?_
              rintro e w22 ⟨rfl, hb⟩
              have H_22 := Lib.hid (H_21.out.ext hb)
              have K_22 := Lib.hid (K_21.out.ext hb)
              have M_22 := Lib.hid (M_21.out.ext hb)
              have B_22 := Lib.hid (B_21.out.trans (hb.mono B_21.out.size))
              clear hb H_21 K_21 M_21 B_21
              go_wp2_with fail
              refine (known7_any _).mono ?_
              rintro e w23 ⟨rfl, hb⟩
              have B_23 := Lib.hid (B_22.out.trans (hb.mono B_22.out.size))
              clear hb H_22 K_22 M_22 B_22
              go_wp2
              go_ret
              exact ⟨rfl, B_23.out⟩
            | false =>
              rw [hf2] at c2
              cases hf3 : largeB M with
              | true =>
                rw [hf3] at c3
                have C1 := Lib.hid c1
                have C2 := Lib.hid c2
                have C3 := Lib.hid c3
                clear c1 c2 c3 k1 k2 k3
                go_enter Try.func21, Try.ntmps21
                go_wp2_with fail
                refine (cA.out _ _ H.out).mono ?_
                rintro e w1 ⟨x0, rfl, ho, hb⟩
                have H_1 := Lib.hid (H.out.ext hb)
                have K_1 := Lib.hid (K.out.ext hb)
                have X_1 := Lib.hid (Sl.of_own ho)
                have B_1 := Lib.hid hb
                clear hb ho H K
                go_wp2_with fail
                refine (CF.out _ _ X_1.out).mono ?_
                rintro e w2 ⟨rfl, hb⟩
                have H_2 := Lib.hid (H_1.out.ext hb)
                have K_2 := Lib.hid (K_1.out.ext hb)
                have B_2 := Lib.hid (B_1.out.trans (hb.mono B_1.out.size))
                clear hb X_1 H_1 K_1 B_1
                go_wp2_with fail
                refine (cB.out _ _ K_2.out).mono ?_
                rintro e w3 ⟨x2, rfl, ho, hb⟩
                have H_3 := Lib.hid (H_2.out.ext hb)
                have K_3 := Lib.hid (K_2.out.ext hb)
                have X_3 := Lib.hid (Sl.of_own ho)
                have B_3 := Lib.hid (B_2.out.trans (hb.mono B_2.out.size))
                clear hb ho H_2 K_2 B_2
                go_wp2_with fail
                refine (CG.out _ _ X_3.out).mono ?_
                rintro e w4 ⟨rfl, hb⟩
                have H_4 := Lib.hid (H_3.out.ext hb)
                have K_4 := Lib.hid (K_3.out.ext hb)
                have B_4 := Lib.hid (B_3.out.trans (hb.mono B_3.out.size))
                clear hb X_3 H_3 K_3 B_3
                go_wp2_with fail
                refine (cA.out _ _ H_4.out).mono ?_
                rintro e w5 ⟨x4, rfl, ho, hb⟩
                have H_5 := Lib.hid (H_4.out.ext hb)
                have K_5 := Lib.hid (K_4.out.ext hb)
                have X_5 := Lib.hid (Sl.of_own ho)
                have B_5 := Lib.hid (B_4.out.trans (hb.mono B_4.out.size))
                clear hb ho H_4 K_4 B_4
                go_wp2_with fail
                refine (cB.out _ _ K_5.out).mono ?_
                rintro e w6 ⟨x5, rfl, ho, hb⟩
                have H_6 := Lib.hid (H_5.out.ext hb)
                have K_6 := Lib.hid (K_5.out.ext hb)
                have X_6 := Lib.hid (X_5.out.ext hb)
                have Y_6 := Lib.hid (Sl.of_own ho)
                have B_6 := Lib.hid (B_5.out.trans (hb.mono B_5.out.size))
                clear hb ho H_5 K_5 X_5 B_5
                go_wp2_with fail
                refine (CP.out _ _ _ X_6.out Y_6.out).mono ?_
                rintro e w7 ⟨va2, vb2, rfl, ho, ho2, hb⟩
                have H_7 := Lib.hid (H_6.out.ext hb)
                have K_7 := Lib.hid (K_6.out.ext hb)
                have A2_7 := Lib.hid (Sl.of_own ho); have B2_7 := Lib.hid (Sl.of_own ho2)
                have B_7 := Lib.hid (B_6.out.trans (hb.mono B_6.out.size))
                clear hb ho ho2 X_6 Y_6 H_6 K_6 B_6
                go_wp2_with fail
                refine (cOA.out _ _ B2_7.out).mono ?_
                rintro e w8 ⟨x7, rfl, ho, hb⟩
                have H_8 := Lib.hid (H_7.out.ext hb)
                have K_8 := Lib.hid (K_7.out.ext hb)
                have A2_8 := Lib.hid (A2_7.out.ext hb)
                have B2_8 := Lib.hid (B2_7.out.ext hb)
                have X_8 := Lib.hid (Sl.of_own ho)
                have B_8 := Lib.hid (B_7.out.trans (hb.mono B_7.out.size))
                clear hb ho H_7 K_7 A2_7 B2_7 B_7
                go_wp2_with fail
                refine (CT.out _ _ X_8.out).mono ?_
                rintro e w9 ⟨rfl, hb⟩
                have H_9 := Lib.hid (H_8.out.ext hb)
                have K_9 := Lib.hid (K_8.out.ext hb)
                have A2_9 := Lib.hid (A2_8.out.ext hb)
                have B2_9 := Lib.hid (B2_8.out.ext hb)
                have B_9 := Lib.hid (B_8.out.trans (hb.mono B_8.out.size))
                clear hb X_8 H_8 K_8 A2_8 B2_8 B_8
                go_wp2_with fail
                refine (cOB.out _ _ A2_9.out).mono ?_
                rintro e w10 ⟨x9, rfl, ho, hb⟩
                have H_10 := Lib.hid (H_9.out.ext hb)
                have K_10 := Lib.hid (K_9.out.ext hb)
                have A2_10 := Lib.hid (A2_9.out.ext hb)
                have B2_10 := Lib.hid (B2_9.out.ext hb)
                have X_10 := Lib.hid (Sl.of_own ho)
                have B_10 := Lib.hid (B_9.out.trans (hb.mono B_9.out.size))
                clear hb ho H_9 K_9 A2_9 B2_9 B_9
                go_wp2_with fail
                refine (CU.out _ _ X_10.out).mono ?_
                rintro e w11 ⟨rfl, hb⟩
                have H_11 := Lib.hid (H_10.out.ext hb)
                have K_11 := Lib.hid (K_10.out.ext hb)
                have A2_11 := Lib.hid (A2_10.out.ext hb)
                have B2_11 := Lib.hid (B2_10.out.ext hb)
                have B_11 := Lib.hid (B_10.out.trans (hb.mono B_10.out.size))
                clear hb X_10 H_10 K_10 A2_10 B2_10 B_10
                go_wp2_with fail
                refine (cA.out _ _ H_11.out).mono ?_
                rintro e w12 ⟨x11, rfl, ho, hb⟩
                have H_12 := Lib.hid (H_11.out.ext hb)
                have K_12 := Lib.hid (K_11.out.ext hb)
                have A2_12 := Lib.hid (A2_11.out.ext hb)
                have B2_12 := Lib.hid (B2_11.out.ext hb)
                have X_12 := Lib.hid (Sl.of_own ho)
                have B_12 := Lib.hid (B_11.out.trans (hb.mono B_11.out.size))
                clear hb ho H_11 K_11 A2_11 B2_11 B_11
                go_wp2_with fail
                refine (CC.out _ _ _ X_12.out B2_12.out).mono ?_
                rintro e w13 ⟨vc, rfl, ho, hb⟩
                have H_13 := Lib.hid (H_12.out.ext hb)
                have K_13 := Lib.hid (K_12.out.ext hb)
                have A2_13 := Lib.hid (A2_12.out.ext hb)
                have C_13 := Lib.hid (Sl.of_own ho)
                have B_13 := Lib.hid (B_12.out.trans (hb.mono B_12.out.size))
                clear hb ho X_12 B2_12 H_12 K_12 A2_12 B_12
                go_wp2_with fail
                refine (cB.out _ _ K_13.out).mono ?_
                rintro e w14 ⟨x13, rfl, ho, hb⟩
                have H_14 := Lib.hid (H_13.out.ext hb)
                have K_14 := Lib.hid (K_13.out.ext hb)
                have A2_14 := Lib.hid (A2_13.out.ext hb)
                have C_14 := Lib.hid (C_13.out.ext hb)
                have X_14 := Lib.hid (Sl.of_own ho)
                have B_14 := Lib.hid (B_13.out.trans (hb.mono B_13.out.size))
                clear hb ho H_13 K_13 A2_13 C_13 B_13
                go_wp2_with fail
                refine (CD.out _ _ _ X_14.out A2_14.out).mono ?_
                rintro e w15 ⟨vd, rfl, ho, hb⟩
                have H_15 := Lib.hid (H_14.out.ext hb)
                have K_15 := Lib.hid (K_14.out.ext hb)
                have C_15 := Lib.hid (C_14.out.ext hb)
                have D_15 := Lib.hid (Sl.of_own ho)
                have B_15 := Lib.hid (B_14.out.trans (hb.mono B_14.out.size))
                clear hb ho X_14 A2_14 H_14 K_14 C_14 B_14
                go_wp2_with fail
                refine (cA.out _ _ H_15.out).mono ?_
                rintro e w16 ⟨x15, rfl, ho, hb⟩
                have H_16 := Lib.hid (H_15.out.ext hb)
                have K_16 := Lib.hid (K_15.out.ext hb)
                have C_16 := Lib.hid (C_15.out.ext hb)
                have D_16 := Lib.hid (D_15.out.ext hb)
                have X_16 := Lib.hid (Sl.of_own ho)
                have B_16 := Lib.hid (B_15.out.trans (hb.mono B_15.out.size))
                clear hb ho H_15 K_15 C_15 D_15 B_15
                go_wp2_with fail
                refine (cB.out _ _ K_16.out).mono ?_
                rintro e w17 ⟨x16, rfl, ho, hb⟩
                have H_17 := Lib.hid (H_16.out.ext hb)
                have K_17 := Lib.hid (K_16.out.ext hb)
                have C_17 := Lib.hid (C_16.out.ext hb)
                have D_17 := Lib.hid (D_16.out.ext hb)
                have X_17 := Lib.hid (X_16.out.ext hb)
                have Y_17 := Lib.hid (Sl.of_own ho)
                have B_17 := Lib.hid (B_16.out.trans (hb.mono B_16.out.size))
                clear hb ho H_16 K_16 C_16 D_16 X_16 B_16
                go_wp2_with fail
                refine (CM.out _ _ _ X_17.out Y_17.out).mono ?_
                rintro e w18 ⟨vm, rfl, ho, hb⟩
                have H_18 := Lib.hid (H_17.out.ext hb)
                have K_18 := Lib.hid (K_17.out.ext hb)
                have C_18 := Lib.hid (C_17.out.ext hb)
                have D_18 := Lib.hid (D_17.out.ext hb)
                have M_18 := Lib.hid (Sl.of_own ho)
                have B_18 := Lib.hid (B_17.out.trans (hb.mono B_17.out.size))
                clear hb ho X_17 Y_17 H_17 K_17 C_17 D_17 B_17
                go_wp2_with fail
                refine (same_any _ _ M M _ C_18.out D_18.out).mono ?_
                rintro e w19 ⟨rfl, hb⟩
                have H_19 := Lib.hid (H_18.out.ext hb)
                have K_19 := Lib.hid (K_18.out.ext hb)
                have C_19 := Lib.hid (C_18.out.ext hb)
                have M_19 := Lib.hid (M_18.out.ext hb)
                have B_19 := Lib.hid (B_18.out.trans (hb.mono B_18.out.size))
                clear hb D_18 H_18 K_18 C_18 M_18 B_18
                rw [sameB_refl M]
                go_wp2_with fail
                refine (same_any _ _ M M _ C_19.out M_19.out).mono ?_
                rintro e w20 ⟨rfl, hb⟩
                have H_20 := Lib.hid (H_19.out.ext hb)
                have K_20 := Lib.hid (K_19.out.ext hb)
                have M_20 := Lib.hid (M_19.out.ext hb)
                have B_20 := Lib.hid (B_19.out.trans (hb.mono B_19.out.size))
                clear hb C_19 H_19 K_19 M_19 B_19
                rw [sameB_refl M]
                go_wp2_with fail
                refine (C1.out _ H_20.out).mono ?_
                rintro e w21 ⟨rfl, hb⟩
                have H_21 := Lib.hid (H_20.out.ext hb)
                have K_21 := Lib.hid (K_20.out.ext hb)
                have M_21 := Lib.hid (M_20.out.ext hb)
                have B_21 := Lib.hid (B_20.out.trans (hb.mono B_20.out.size))
                clear hb H_20 K_20 M_20 B_20
                go_wp2_with fail
                refine (C2.out _ K_21.out).mono ?_
                rintro e w22 ⟨rfl, hb⟩
                have H_22 := Lib.hid (H_21.out.ext hb)
                have K_22 := Lib.hid (K_21.out.ext hb)
                have M_22 := Lib.hid (M_21.out.ext hb)
                have B_22 := Lib.hid (B_21.out.trans (hb.mono B_21.out.size))
                clear hb H_21 K_21 M_21 B_21
                go_wp2_with fail
                refine (C3.out _ _ M_22.out).mono ?_
                rintro e w23 ⟨rfl, hb⟩
                have H_23 := Lib.hid (H_22.out.ext hb)
                have K_23 := Lib.hid (K_22.out.ext hb)
                have M_23 := Lib.hid (M_22.out.ext hb)
                have B_23 := Lib.hid (B_22.out.trans (hb.mono B_22.out.size))
                clear hb H_22 K_22 M_22 B_22
                go_wp2_with fail
                refine (known7_any _).mono ?_
                rintro e w24 ⟨rfl, hb⟩
                have B_24 := Lib.hid (B_23.out.trans (hb.mono B_23.out.size))
                clear hb H_23 K_23 M_23 B_23
                go_wp2
                go_ret
                exact ⟨rfl, B_24.out⟩
              | false =>
                rw [hf3] at c3
                have C1 := Lib.hid c1
                have C2 := Lib.hid c2
                have C3 := Lib.hid c3
                have K1 := Lib.hid k1; have K2 := Lib.hid k2; have K3 := Lib.hid k3
                clear c1 c2 c3 k1 k2 k3
                go_enter Try.func21, Try.ntmps21
                go_wp2_with fail
                refine (cA.out _ _ H.out).mono ?_
                rintro e w1 ⟨x0, rfl, ho, hb⟩
                have H_1 := Lib.hid (H.out.ext hb)
                have K_1 := Lib.hid (K.out.ext hb)
                have X_1 := Lib.hid (Sl.of_own ho)
                have B_1 := Lib.hid hb
                clear hb ho H K
                go_wp2_with fail
                refine (CF.out _ _ X_1.out).mono ?_
                rintro e w2 ⟨rfl, hb⟩
                have H_2 := Lib.hid (H_1.out.ext hb)
                have K_2 := Lib.hid (K_1.out.ext hb)
                have B_2 := Lib.hid (B_1.out.trans (hb.mono B_1.out.size))
                clear hb X_1 H_1 K_1 B_1
                go_wp2_with fail
                refine (cB.out _ _ K_2.out).mono ?_
                rintro e w3 ⟨x2, rfl, ho, hb⟩
                have H_3 := Lib.hid (H_2.out.ext hb)
                have K_3 := Lib.hid (K_2.out.ext hb)
                have X_3 := Lib.hid (Sl.of_own ho)
                have B_3 := Lib.hid (B_2.out.trans (hb.mono B_2.out.size))
                clear hb ho H_2 K_2 B_2
                go_wp2_with fail
                refine (CG.out _ _ X_3.out).mono ?_
                rintro e w4 ⟨rfl, hb⟩
                have H_4 := Lib.hid (H_3.out.ext hb)
                have K_4 := Lib.hid (K_3.out.ext hb)
                have B_4 := Lib.hid (B_3.out.trans (hb.mono B_3.out.size))
                clear hb X_3 H_3 K_3 B_3
                go_wp2_with fail
                refine (cA.out _ _ H_4.out).mono ?_
                rintro e w5 ⟨x4, rfl, ho, hb⟩
                have H_5 := Lib.hid (H_4.out.ext hb)
                have K_5 := Lib.hid (K_4.out.ext hb)
                have X_5 := Lib.hid (Sl.of_own ho)
                have B_5 := Lib.hid (B_4.out.trans (hb.mono B_4.out.size))
                clear hb ho H_4 K_4 B_4
                go_wp2_with fail
                refine (cB.out _ _ K_5.out).mono ?_
                rintro e w6 ⟨x5, rfl, ho, hb⟩
                have H_6 := Lib.hid (H_5.out.ext hb)
                have K_6 := Lib.hid (K_5.out.ext hb)
                have X_6 := Lib.hid (X_5.out.ext hb)
                have Y_6 := Lib.hid (Sl.of_own ho)
                have B_6 := Lib.hid (B_5.out.trans (hb.mono B_5.out.size))
                clear hb ho H_5 K_5 X_5 B_5
                go_wp2_with fail
                refine (CP.out _ _ _ X_6.out Y_6.out).mono ?_
                rintro e w7 ⟨va2, vb2, rfl, ho, ho2, hb⟩
                have H_7 := Lib.hid (H_6.out.ext hb)
                have K_7 := Lib.hid (K_6.out.ext hb)
                have A2_7 := Lib.hid (Sl.of_own ho); have B2_7 := Lib.hid (Sl.of_own ho2)
                have B_7 := Lib.hid (B_6.out.trans (hb.mono B_6.out.size))
                clear hb ho ho2 X_6 Y_6 H_6 K_6 B_6
                go_wp2_with fail
                refine (cOA.out _ _ B2_7.out).mono ?_
                rintro e w8 ⟨x7, rfl, ho, hb⟩
                have H_8 := Lib.hid (H_7.out.ext hb)
                have K_8 := Lib.hid (K_7.out.ext hb)
                have A2_8 := Lib.hid (A2_7.out.ext hb)
                have B2_8 := Lib.hid (B2_7.out.ext hb)
                have X_8 := Lib.hid (Sl.of_own ho)
                have B_8 := Lib.hid (B_7.out.trans (hb.mono B_7.out.size))
                clear hb ho H_7 K_7 A2_7 B2_7 B_7
                go_wp2_with fail
                refine (CT.out _ _ X_8.out).mono ?_
                rintro e w9 ⟨rfl, hb⟩
                have H_9 := Lib.hid (H_8.out.ext hb)
                have K_9 := Lib.hid (K_8.out.ext hb)
                have A2_9 := Lib.hid (A2_8.out.ext hb)
                have B2_9 := Lib.hid (B2_8.out.ext hb)
                have B_9 := Lib.hid (B_8.out.trans (hb.mono B_8.out.size))
                clear hb X_8 H_8 K_8 A2_8 B2_8 B_8
                go_wp2_with fail
                refine (cOB.out _ _ A2_9.out).mono ?_
                rintro e w10 ⟨x9, rfl, ho, hb⟩
                have H_10 := Lib.hid (H_9.out.ext hb)
                have K_10 := Lib.hid (K_9.out.ext hb)
                have A2_10 := Lib.hid (A2_9.out.ext hb)
                have B2_10 := Lib.hid (B2_9.out.ext hb)
                have X_10 := Lib.hid (Sl.of_own ho)
                have B_10 := Lib.hid (B_9.out.trans (hb.mono B_9.out.size))
                clear hb ho H_9 K_9 A2_9 B2_9 B_9
                go_wp2_with fail
                refine (CU.out _ _ X_10.out).mono ?_
                rintro e w11 ⟨rfl, hb⟩
                have H_11 := Lib.hid (H_10.out.ext hb)
                have K_11 := Lib.hid (K_10.out.ext hb)
                have A2_11 := Lib.hid (A2_10.out.ext hb)
                have B2_11 := Lib.hid (B2_10.out.ext hb)
                have B_11 := Lib.hid (B_10.out.trans (hb.mono B_10.out.size))
                clear hb X_10 H_10 K_10 A2_10 B2_10 B_10
                go_wp2_with fail
                refine (cA.out _ _ H_11.out).mono ?_
                rintro e w12 ⟨x11, rfl, ho, hb⟩
                have H_12 := Lib.hid (H_11.out.ext hb)
                have K_12 := Lib.hid (K_11.out.ext hb)
                have A2_12 := Lib.hid (A2_11.out.ext hb)
                have B2_12 := Lib.hid (B2_11.out.ext hb)
                have X_12 := Lib.hid (Sl.of_own ho)
                have B_12 := Lib.hid (B_11.out.trans (hb.mono B_11.out.size))
                clear hb ho H_11 K_11 A2_11 B2_11 B_11
                go_wp2_with fail
                refine (CC.out _ _ _ X_12.out B2_12.out).mono ?_
                rintro e w13 ⟨vc, rfl, ho, hb⟩
                have H_13 := Lib.hid (H_12.out.ext hb)
                have K_13 := Lib.hid (K_12.out.ext hb)
                have A2_13 := Lib.hid (A2_12.out.ext hb)
                have C_13 := Lib.hid (Sl.of_own ho)
                have B_13 := Lib.hid (B_12.out.trans (hb.mono B_12.out.size))
                clear hb ho X_12 B2_12 H_12 K_12 A2_12 B_12
                go_wp2_with fail
                refine (cB.out _ _ K_13.out).mono ?_
                rintro e w14 ⟨x13, rfl, ho, hb⟩
                have H_14 := Lib.hid (H_13.out.ext hb)
                have K_14 := Lib.hid (K_13.out.ext hb)
                have A2_14 := Lib.hid (A2_13.out.ext hb)
                have C_14 := Lib.hid (C_13.out.ext hb)
                have X_14 := Lib.hid (Sl.of_own ho)
                have B_14 := Lib.hid (B_13.out.trans (hb.mono B_13.out.size))
                clear hb ho H_13 K_13 A2_13 C_13 B_13
                go_wp2_with fail
                refine (CD.out _ _ _ X_14.out A2_14.out).mono ?_
                rintro e w15 ⟨vd, rfl, ho, hb⟩
                have H_15 := Lib.hid (H_14.out.ext hb)
                have K_15 := Lib.hid (K_14.out.ext hb)
                have C_15 := Lib.hid (C_14.out.ext hb)
                have D_15 := Lib.hid (Sl.of_own ho)
                have B_15 := Lib.hid (B_14.out.trans (hb.mono B_14.out.size))
                clear hb ho X_14 A2_14 H_14 K_14 C_14 B_14
                go_wp2_with fail
                refine (cA.out _ _ H_15.out).mono ?_
                rintro e w16 ⟨x15, rfl, ho, hb⟩
                have H_16 := Lib.hid (H_15.out.ext hb)
                have K_16 := Lib.hid (K_15.out.ext hb)
                have C_16 := Lib.hid (C_15.out.ext hb)
                have D_16 := Lib.hid (D_15.out.ext hb)
                have X_16 := Lib.hid (Sl.of_own ho)
                have B_16 := Lib.hid (B_15.out.trans (hb.mono B_15.out.size))
                clear hb ho H_15 K_15 C_15 D_15 B_15
                go_wp2_with fail
                refine (cB.out _ _ K_16.out).mono ?_
                rintro e w17 ⟨x16, rfl, ho, hb⟩
                have H_17 := Lib.hid (H_16.out.ext hb)
                have K_17 := Lib.hid (K_16.out.ext hb)
                have C_17 := Lib.hid (C_16.out.ext hb)
                have D_17 := Lib.hid (D_16.out.ext hb)
                have X_17 := Lib.hid (X_16.out.ext hb)
                have Y_17 := Lib.hid (Sl.of_own ho)
                have B_17 := Lib.hid (B_16.out.trans (hb.mono B_16.out.size))
                clear hb ho H_16 K_16 C_16 D_16 X_16 B_16
                go_wp2_with fail
                refine (CM.out _ _ _ X_17.out Y_17.out).mono ?_
                rintro e w18 ⟨vm, rfl, ho, hb⟩
                have H_18 := Lib.hid (H_17.out.ext hb)
                have K_18 := Lib.hid (K_17.out.ext hb)
                have C_18 := Lib.hid (C_17.out.ext hb)
                have D_18 := Lib.hid (D_17.out.ext hb)
                have M_18 := Lib.hid (Sl.of_own ho)
                have B_18 := Lib.hid (B_17.out.trans (hb.mono B_17.out.size))
                clear hb ho X_17 Y_17 H_17 K_17 C_17 D_17 B_17
                go_wp2_with fail
                refine (same_any _ _ M M _ C_18.out D_18.out).mono ?_
                rintro e w19 ⟨rfl, hb⟩
                have H_19 := Lib.hid (H_18.out.ext hb)
                have K_19 := Lib.hid (K_18.out.ext hb)
                have C_19 := Lib.hid (C_18.out.ext hb)
                have M_19 := Lib.hid (M_18.out.ext hb)
                have B_19 := Lib.hid (B_18.out.trans (hb.mono B_18.out.size))
                clear hb D_18 H_18 K_18 C_18 M_18 B_18
                rw [sameB_refl M]
                go_wp2_with fail
                refine (same_any _ _ M M _ C_19.out M_19.out).mono ?_
                rintro e w20 ⟨rfl, hb⟩
                have H_20 := Lib.hid (H_19.out.ext hb)
                have K_20 := Lib.hid (K_19.out.ext hb)
                have M_20 := Lib.hid (M_19.out.ext hb)
                have B_20 := Lib.hid (B_19.out.trans (hb.mono B_19.out.size))
                clear hb C_19 H_19 K_19 M_19 B_19
                rw [sameB_refl M]
                go_wp2_with fail
                refine (C1.out _ H_20.out).mono ?_
                rintro e w21 ⟨rfl, hb⟩
                have H_21 := Lib.hid (H_20.out.ext hb)
                have K_21 := Lib.hid (K_20.out.ext hb)
                have M_21 := Lib.hid (M_20.out.ext hb)
                have B_21 := Lib.hid (B_20.out.trans (hb.mono B_20.out.size))
                clear hb H_20 K_20 M_20 B_20
                go_wp2_with fail
                refine (C2.out _ K_21.out).mono ?_
                rintro e w22 ⟨rfl, hb⟩
                have H_22 := Lib.hid (H_21.out.ext hb)
                have K_22 := Lib.hid (K_21.out.ext hb)
                have M_22 := Lib.hid (M_21.out.ext hb)
                have B_22 := Lib.hid (B_21.out.trans (hb.mono B_21.out.size))
                clear hb H_21 K_21 M_21 B_21
                go_wp2_with fail
                refine (C3.out _ _ M_22.out).mono ?_
                rintro e w23 ⟨rfl, hb⟩
                have H_23 := Lib.hid (H_22.out.ext hb)
                have K_23 := Lib.hid (K_22.out.ext hb)
                have M_23 := Lib.hid (M_22.out.ext hb)
                have B_23 := Lib.hid (B_22.out.trans (hb.mono B_22.out.size))
                clear hb H_22 K_22 M_22 B_22
                go_wp2_with fail
                refine (K1.out _ H_23.out).mono ?_
                rintro e w24 ⟨vk1, rfl, hk, hb⟩
                have K_24 := Lib.hid (K_23.out.ext hb)
                have M_24 := Lib.hid (M_23.out.ext hb)
                have P1_24 := Lib.hid (hk)
                have B_24 := Lib.hid (B_23.out.trans (hb.mono B_23.out.size))
                clear hb H_23 K_23 M_23 B_23
                clear hk
                go_wp2_with fail
                refine (K2.out _ K_24.out).mono ?_
                rintro e w25 ⟨vk2, rfl, hk, hb⟩
                have M_25 := Lib.hid (M_24.out.ext hb)
                have P1_25 := Lib.hid (P1_24.out.ext hb)
                have P2_25 := Lib.hid (hk)
                have B_25 := Lib.hid (B_24.out.trans (hb.mono B_24.out.size))
                clear hb K_24 M_24 P1_24 B_24
                clear hk
                go_wp2_with fail
                refine (K3.out _ _ M_25.out).mono ?_
                rintro e w26 ⟨vk3, rfl, hk, hb⟩
                have P1_26 := Lib.hid (P1_25.out.ext hb)
                have P2_26 := Lib.hid (P2_25.out.ext hb)
                have P3_26 := Lib.hid (hk)
                have B_26 := Lib.hid (B_25.out.trans (hb.mono B_25.out.size))
                clear hb M_25 P1_25 P2_25 B_25
                clear hk
                obtain ⟨Ap1, cp1, hvp1, -, -, -⟩ := id P1_26.out
                rw [kpL_len] at hvp1
                subst hvp1
                obtain ⟨Ap2, cp2, hvp2, -, -, -⟩ := id P2_26.out
                rw [kpL_len] at hvp2
                subst hvp2
                obtain ⟨Ap3, cp3, hvp3, -, -, -⟩ := id P3_26.out
                rw [kpL_len] at hvp3
                subst hvp3
                go_wp2_with fail
                go_loopw [22] (fun i wr => ∃ k : Nat, k ≤ s.length ∧ i = .int .i64 k ∧ Hid (Below w26.heap.size w26 wr)) (fun i _ => s.length - (intOf i).toNat)
                case atStart => exact ⟨0, by omega, rfl, Lib.hid (Below.refl _ _)⟩
                case round =>
                  obtain ⟨k, hk, rfl, hW⟩ := hrel
                  by_cases hlt : k < s.length
                  · obtain ⟨b1, o1, z1, hv1, hb1, hc1⟩ := P1_26.out.bool7 (k := k) (by rw [kpL_len]; exact hlt)
                    obtain ⟨b2, o2, z2, hv2, hb2, hc2⟩ := P2_26.out.bool7 (k := k) (by rw [kpL_len]; exact hlt)
                    obtain ⟨b3, o3, z3, hv3, hb3, hc3⟩ := P3_26.out.bool7 (k := k) (by rw [kpL_len]; exact hlt)
                    obtain ⟨rfl, rfl⟩ : Ap1 = some ⟨b1, o1, none⟩ ∧ cp1 = z1 := by injection hv1 with e1 e2 e3; exact ⟨e1, e3⟩
                    obtain ⟨rfl, rfl⟩ : Ap2 = some ⟨b2, o2, none⟩ ∧ cp2 = z2 := by injection hv2 with e1 e2 e3; exact ⟨e1, e3⟩
                    obtain ⟨rfl, rfl⟩ : Ap3 = some ⟨b3, o3, none⟩ ∧ cp3 = z3 := by injection hv3 with e1 e2 e3; exact ⟨e1, e3⟩
                    have y1 := hc1 _ hW.out
                    have hbw1 := Nat.lt_of_lt_of_le hb1 hW.out.size
                    have y2 := hc2 _ hW.out
                    have hbw2 := Nat.lt_of_lt_of_le hb2 hW.out.size
                    have y3 := hc3 _ hW.out
                    have hbw3 := Nat.lt_of_lt_of_le hb3 hW.out.size
                    have hkey : decide ((k : Int) ∈ AM) = (decide ((k : Int) ∈ AA) && decide ((k : Int) ∈ AB)) := by
                      rw [← Bool.decide_and]
                      exact decide_eq_decide.2 (KK.out k (by omega))
                    have hki : (k : Int) < (s.length : Int) := by omega
                    have i1 : (kpL s.length AA)[k]'(by rw [kpL_len]; exact hlt) = decide ((k : Int) ∈ AA) := by simp [kpL]
                    have i2 : (kpL s.length AB)[k]'(by rw [kpL_len]; exact hlt) = decide ((k : Int) ∈ AB) := by simp [kpL]
                    have i3 : (kpL s.length AM)[k]'(by rw [kpL_len]; exact hlt) = decide ((k : Int) ∈ AM) := by simp [kpL]
                    rw [i1] at y1
                    rw [i2] at y2
                    rw [i3, hkey] at y3
                    clear hv1 hv2 hv3 hc1 hc2 hc3 i1 i2 i3 hkey
                    generalize decide ((k : Int) ∈ AA) = q1 at *
                    generalize decide ((k : Int) ∈ AB) = q2 at *
                    cases q1 <;> cases q2 <;> simp only [Bool.and_self, Bool.and_false, Bool.and_true] at y3
                    all_goals go_wp2_with fail
                    all_goals go_quiet (fail)
                    all_goals go_wp2_with fail
                    all_goals go_roundw
                    all_goals first
                      | exact ⟨k + 1, by omega, by go_num, Lib.hid (below_drewN hW.out _)⟩
                      | (simp [intOf]; omega)
                  · go_wp2_with fail
                    refine (known7_any _).mono ?_
                    rintro e wz ⟨rfl, hbz⟩
                    have BZ := Lib.hid ((B_26.out.trans (hW.out.mono B_26.out.size)).trans (hbz.mono (B_26.out.trans (hW.out.mono B_26.out.size)).size))
                    clear hbz
                    go_wp2
                    go_ret
                    exact ⟨rfl, BZ.out⟩
        · have hne : (cmpE l B2 != 0) = true := by simpa using hE
          generalize cmpR l B2 = M at *
          generalize cmpE l B2 = E at *
          have CF := Lib.hid cF; have CG := Lib.hid cG; have CP := Lib.hid cP; have CT := Lib.hid cT; have CU := Lib.hid cU; have CC := Lib.hid cC; have CD := Lib.hid cD; have CM := Lib.hid cM
          clear cF cG cP cT cU cC cD cM h h' hd hd' hl hl' hs' f1 f2 f3 g1 g2 g3 kk hE
          go_enter Try.func21, Try.ntmps21
          go_wp2_with fail
          refine (cA.out _ _ H.out).mono ?_
          rintro e w1 ⟨x0, rfl, ho, hb⟩
          have H_1 := Lib.hid (H.out.ext hb)
          have K_1 := Lib.hid (K.out.ext hb)
          have X_1 := Lib.hid (Sl.of_own ho)
          have B_1 := Lib.hid hb
          clear hb ho H K
          go_wp2_with fail
          refine (CF.out _ _ X_1.out).mono ?_
          rintro e w2 ⟨rfl, hb⟩
          have H_2 := Lib.hid (H_1.out.ext hb)
          have K_2 := Lib.hid (K_1.out.ext hb)
          have B_2 := Lib.hid (B_1.out.trans (hb.mono B_1.out.size))
          clear hb X_1 H_1 K_1 B_1
          go_wp2_with fail
          refine (cB.out _ _ K_2.out).mono ?_
          rintro e w3 ⟨x2, rfl, ho, hb⟩
          have H_3 := Lib.hid (H_2.out.ext hb)
          have K_3 := Lib.hid (K_2.out.ext hb)
          have X_3 := Lib.hid (Sl.of_own ho)
          have B_3 := Lib.hid (B_2.out.trans (hb.mono B_2.out.size))
          clear hb ho H_2 K_2 B_2
          go_wp2_with fail
          refine (CG.out _ _ X_3.out).mono ?_
          rintro e w4 ⟨rfl, hb⟩
          have H_4 := Lib.hid (H_3.out.ext hb)
          have K_4 := Lib.hid (K_3.out.ext hb)
          have B_4 := Lib.hid (B_3.out.trans (hb.mono B_3.out.size))
          clear hb X_3 H_3 K_3 B_3
          go_wp2_with fail
          refine (cA.out _ _ H_4.out).mono ?_
          rintro e w5 ⟨x4, rfl, ho, hb⟩
          have H_5 := Lib.hid (H_4.out.ext hb)
          have K_5 := Lib.hid (K_4.out.ext hb)
          have X_5 := Lib.hid (Sl.of_own ho)
          have B_5 := Lib.hid (B_4.out.trans (hb.mono B_4.out.size))
          clear hb ho H_4 K_4 B_4
          go_wp2_with fail
          refine (cB.out _ _ K_5.out).mono ?_
          rintro e w6 ⟨x5, rfl, ho, hb⟩
          have H_6 := Lib.hid (H_5.out.ext hb)
          have K_6 := Lib.hid (K_5.out.ext hb)
          have X_6 := Lib.hid (X_5.out.ext hb)
          have Y_6 := Lib.hid (Sl.of_own ho)
          have B_6 := Lib.hid (B_5.out.trans (hb.mono B_5.out.size))
          clear hb ho H_5 K_5 X_5 B_5
          go_wp2_with fail
          refine (CP.out _ _ _ X_6.out Y_6.out).mono ?_
          rintro e w7 ⟨va2, vb2, rfl, ho, ho2, hb⟩
          have H_7 := Lib.hid (H_6.out.ext hb)
          have K_7 := Lib.hid (K_6.out.ext hb)
          have A2_7 := Lib.hid (Sl.of_own ho); have B2_7 := Lib.hid (Sl.of_own ho2)
          have B_7 := Lib.hid (B_6.out.trans (hb.mono B_6.out.size))
          clear hb ho ho2 X_6 Y_6 H_6 K_6 B_6
          go_wp2_with fail
          refine (cOA.out _ _ B2_7.out).mono ?_
          rintro e w8 ⟨x7, rfl, ho, hb⟩
          have H_8 := Lib.hid (H_7.out.ext hb)
          have K_8 := Lib.hid (K_7.out.ext hb)
          have A2_8 := Lib.hid (A2_7.out.ext hb)
          have B2_8 := Lib.hid (B2_7.out.ext hb)
          have X_8 := Lib.hid (Sl.of_own ho)
          have B_8 := Lib.hid (B_7.out.trans (hb.mono B_7.out.size))
          clear hb ho H_7 K_7 A2_7 B2_7 B_7
          go_wp2_with fail
          refine (CT.out _ _ X_8.out).mono ?_
          rintro e w9 ⟨rfl, hb⟩
          have H_9 := Lib.hid (H_8.out.ext hb)
          have K_9 := Lib.hid (K_8.out.ext hb)
          have A2_9 := Lib.hid (A2_8.out.ext hb)
          have B2_9 := Lib.hid (B2_8.out.ext hb)
          have B_9 := Lib.hid (B_8.out.trans (hb.mono B_8.out.size))
          clear hb X_8 H_8 K_8 A2_8 B2_8 B_8
          go_wp2_with fail
          refine (cOB.out _ _ A2_9.out).mono ?_
          rintro e w10 ⟨x9, rfl, ho, hb⟩
          have H_10 := Lib.hid (H_9.out.ext hb)
          have K_10 := Lib.hid (K_9.out.ext hb)
          have A2_10 := Lib.hid (A2_9.out.ext hb)
          have B2_10 := Lib.hid (B2_9.out.ext hb)
          have X_10 := Lib.hid (Sl.of_own ho)
          have B_10 := Lib.hid (B_9.out.trans (hb.mono B_9.out.size))
          clear hb ho H_9 K_9 A2_9 B2_9 B_9
          go_wp2_with fail
          refine (CU.out _ _ X_10.out).mono ?_
          rintro e w11 ⟨rfl, hb⟩
          have H_11 := Lib.hid (H_10.out.ext hb)
          have K_11 := Lib.hid (K_10.out.ext hb)
          have A2_11 := Lib.hid (A2_10.out.ext hb)
          have B2_11 := Lib.hid (B2_10.out.ext hb)
          have B_11 := Lib.hid (B_10.out.trans (hb.mono B_10.out.size))
          clear hb X_10 H_10 K_10 A2_10 B2_10 B_10
          go_wp2_with fail
          refine (cA.out _ _ H_11.out).mono ?_
          rintro e w12 ⟨x11, rfl, ho, hb⟩
          have H_12 := Lib.hid (H_11.out.ext hb)
          have K_12 := Lib.hid (K_11.out.ext hb)
          have A2_12 := Lib.hid (A2_11.out.ext hb)
          have B2_12 := Lib.hid (B2_11.out.ext hb)
          have X_12 := Lib.hid (Sl.of_own ho)
          have B_12 := Lib.hid (B_11.out.trans (hb.mono B_11.out.size))
          clear hb ho H_11 K_11 A2_11 B2_11 B_11
          go_wp2_with fail
          refine (CC.out _ _ _ X_12.out B2_12.out).mono ?_
          rintro e w13 ⟨vc, rfl, ho, hb⟩
          have H_13 := Lib.hid (H_12.out.ext hb)
          have K_13 := Lib.hid (K_12.out.ext hb)
          have A2_13 := Lib.hid (A2_12.out.ext hb)
          have C_13 := Lib.hid (Sl.of_own ho)
          have B_13 := Lib.hid (B_12.out.trans (hb.mono B_12.out.size))
          clear hb ho X_12 B2_12 H_12 K_12 A2_12 B_12
          go_wp2_with fail
          refine (cB.out _ _ K_13.out).mono ?_
          rintro e w14 ⟨x13, rfl, ho, hb⟩
          have H_14 := Lib.hid (H_13.out.ext hb)
          have K_14 := Lib.hid (K_13.out.ext hb)
          have A2_14 := Lib.hid (A2_13.out.ext hb)
          have C_14 := Lib.hid (C_13.out.ext hb)
          have X_14 := Lib.hid (Sl.of_own ho)
          have B_14 := Lib.hid (B_13.out.trans (hb.mono B_13.out.size))
          clear hb ho H_13 K_13 A2_13 C_13 B_13
          go_wp2_with fail
          refine (CD.out _ _ _ X_14.out A2_14.out).mono ?_
          rintro e w15 ⟨vd, rfl, ho, hb⟩
          have H_15 := Lib.hid (H_14.out.ext hb)
          have K_15 := Lib.hid (K_14.out.ext hb)
          have C_15 := Lib.hid (C_14.out.ext hb)
          have D_15 := Lib.hid (Sl.of_own ho)
          have B_15 := Lib.hid (B_14.out.trans (hb.mono B_14.out.size))
          clear hb ho X_14 A2_14 H_14 K_14 C_14 B_14
          go_wp2_with fail
          refine (cA.out _ _ H_15.out).mono ?_
          rintro e w16 ⟨x15, rfl, ho, hb⟩
          have K_16 := Lib.hid (K_15.out.ext hb)
          have C_16 := Lib.hid (C_15.out.ext hb)
          have D_16 := Lib.hid (D_15.out.ext hb)
          have X_16 := Lib.hid (Sl.of_own ho)
          have B_16 := Lib.hid (B_15.out.trans (hb.mono B_15.out.size))
          clear hb ho H_15 K_15 C_15 D_15 B_15
          go_wp2_with fail
          refine (cB.out _ _ K_16.out).mono ?_
          rintro e w17 ⟨x16, rfl, ho, hb⟩
          have C_17 := Lib.hid (C_16.out.ext hb)
          have D_17 := Lib.hid (D_16.out.ext hb)
          have X_17 := Lib.hid (X_16.out.ext hb)
          have Y_17 := Lib.hid (Sl.of_own ho)
          have B_17 := Lib.hid (B_16.out.trans (hb.mono B_16.out.size))
          clear hb ho K_16 C_16 D_16 X_16 B_16
          go_wp2_with fail
          refine (CM.out _ _ _ X_17.out Y_17.out).mono ?_
          rintro e w18 ⟨vm, rfl, ho, hb⟩
          have C_18 := Lib.hid (C_17.out.ext hb)
          have D_18 := Lib.hid (D_17.out.ext hb)
          have M_18 := Lib.hid (Sl.of_own ho)
          have B_18 := Lib.hid (B_17.out.trans (hb.mono B_17.out.size))
          clear hb ho X_17 Y_17 C_17 D_17 B_17
          go_wp2_with fail
          refine (same_any _ _ M M _ C_18.out D_18.out).mono ?_
          rintro e w19 ⟨rfl, hb⟩
          have C_19 := Lib.hid (C_18.out.ext hb)
          have M_19 := Lib.hid (M_18.out.ext hb)
          have B_19 := Lib.hid (B_18.out.trans (hb.mono B_18.out.size))
          clear hb D_18 C_18 M_18 B_18
          rw [sameB_refl M]
          go_wp2_with fail
          refine (same_any _ _ M M _ C_19.out M_19.out).mono ?_
          rintro e w20 ⟨rfl, hb⟩
          have M_20 := Lib.hid (M_19.out.ext hb)
          have B_20 := Lib.hid (B_19.out.trans (hb.mono B_19.out.size))
          clear hb C_19 M_19 B_19
          rw [sameB_refl M]
          go_wp2_with fail
          refine (known7_any _).mono ?_
          rintro e w21 ⟨rfl, hb⟩
          have B_21 := Lib.hid (B_20.out.trans (hb.mono B_20.out.size))
          clear hb M_20 B_20
          go_wp2
          go_ret
          exact ⟨rfl, B_21.out⟩
      · have h5 : tpE l l' = 5 := by
          have five : ∀ (f : Bool) {a b : List Pc}, errL a = 0 → errL b = 0 → inL a = inL b → trE f a b = 0 ∨ trE f a b = 5 := by
            intro f a b ha hb hi
            rw [trE, if_pos ha, if_pos hb, if_pos hi]
            split
            · exact .inl rfl
            · exact .inr rfl
          unfold tpE at h2 ⊢
          by_cases e : trE true l l' = 0
          · rw [if_pos e] at h2 ⊢; exact (five false g1 f1 hi.symm).resolve_left h2
          · rw [if_neg e]; exact (five true f1 g1 hi).resolve_left e
        rw [h5] at cP
        have CF := Lib.hid cF; have CG := Lib.hid cG; have CP := Lib.hid cP
        clear cF cG cP h h' hd hd' hl hl' hs' f1 f2 f3 g1 g2 g3 h5 h2 hi h0 h1
        go_enter Try.func21, Try.ntmps21
        go_wp2_with fail
        refine (cA.out _ _ H.out).mono ?_
        rintro e w1 ⟨x0, rfl, ho, hb⟩
        have H_1 := Lib.hid (H.out.ext hb)
        have K_1 := Lib.hid (K.out.ext hb)
        have X_1 := Lib.hid (Sl.of_own ho)
        have B_1 := Lib.hid hb
        clear hb ho H K
        go_wp2_with fail
        refine (CF.out _ _ X_1.out).mono ?_
        rintro e w2 ⟨rfl, hb⟩
        have H_2 := Lib.hid (H_1.out.ext hb)
        have K_2 := Lib.hid (K_1.out.ext hb)
        have B_2 := Lib.hid (B_1.out.trans (hb.mono B_1.out.size))
        clear hb X_1 H_1 K_1 B_1
        go_wp2_with fail
        refine (cB.out _ _ K_2.out).mono ?_
        rintro e w3 ⟨x2, rfl, ho, hb⟩
        have H_3 := Lib.hid (H_2.out.ext hb)
        have K_3 := Lib.hid (K_2.out.ext hb)
        have X_3 := Lib.hid (Sl.of_own ho)
        have B_3 := Lib.hid (B_2.out.trans (hb.mono B_2.out.size))
        clear hb ho H_2 K_2 B_2
        go_wp2_with fail
        refine (CG.out _ _ X_3.out).mono ?_
        rintro e w4 ⟨rfl, hb⟩
        have H_4 := Lib.hid (H_3.out.ext hb)
        have K_4 := Lib.hid (K_3.out.ext hb)
        have B_4 := Lib.hid (B_3.out.trans (hb.mono B_3.out.size))
        clear hb X_3 H_3 K_3 B_3
        go_wp2_with fail
        refine (cA.out _ _ H_4.out).mono ?_
        rintro e w5 ⟨x4, rfl, ho, hb⟩
        have K_5 := Lib.hid (K_4.out.ext hb)
        have X_5 := Lib.hid (Sl.of_own ho)
        have B_5 := Lib.hid (B_4.out.trans (hb.mono B_4.out.size))
        clear hb ho H_4 K_4 B_4
        go_wp2_with fail
        refine (cB.out _ _ K_5.out).mono ?_
        rintro e w6 ⟨x5, rfl, ho, hb⟩
        have X_6 := Lib.hid (X_5.out.ext hb)
        have Y_6 := Lib.hid (Sl.of_own ho)
        have B_6 := Lib.hid (B_5.out.trans (hb.mono B_5.out.size))
        clear hb ho K_5 X_5 B_5
        go_wp2_with fail
        refine (CP.out _ _ _ X_6.out Y_6.out).mono ?_
        rintro e w7 ⟨va2, vb2, rfl, ho, ho2, hb⟩
        have A2_7 := Lib.hid (Sl.of_own ho); have B2_7 := Lib.hid (Sl.of_own ho2)
        have B_7 := Lib.hid (B_6.out.trans (hb.mono B_6.out.size))
        clear hb ho ho2 X_6 Y_6 B_6
        go_wp2_with fail
        refine (known7_any _).mono ?_
        rintro e w8 ⟨rfl, hb⟩
        have B_8 := Lib.hid (B_7.out.trans (hb.mono B_7.out.size))
        clear hb A2_7 B2_7 B_7
        go_wp2
        go_ret
        exact ⟨rfl, B_8.out⟩
    · have hb2 : (fitE s l' != 0) = true := by simpa using h1
      generalize fitE s l' = E at *
      generalize applyS s l = TX at *
      generalize applyS s l' = TY at *
      have CF := Lib.hid cF; have CG := Lib.hid cG
      clear cF cG h0 h1 h h' hd hd' hl hl' hs'
      go_enter Try.func21, Try.ntmps21
      go_wp2_with fail
      refine (cA.out _ _ H.out).mono ?_
      rintro e w1 ⟨x0, rfl, ho, hb⟩
      have K_1 := Lib.hid (K.out.ext hb)
      have X_1 := Lib.hid (Sl.of_own ho)
      have B_1 := Lib.hid hb
      clear hb ho H K
      go_wp2_with fail
      refine (CF.out _ _ X_1.out).mono ?_
      rintro e w2 ⟨rfl, hb⟩
      have K_2 := Lib.hid (K_1.out.ext hb)
      have B_2 := Lib.hid (B_1.out.trans (hb.mono B_1.out.size))
      clear hb X_1 K_1 B_1
      go_wp2_with fail
      refine (cB.out _ _ K_2.out).mono ?_
      rintro e w3 ⟨x2, rfl, ho, hb⟩
      have X_3 := Lib.hid (Sl.of_own ho)
      have B_3 := Lib.hid (B_2.out.trans (hb.mono B_2.out.size))
      clear hb ho K_2 B_2
      go_wp2_with fail
      refine (CG.out _ _ X_3.out).mono ?_
      rintro e w4 ⟨rfl, hb⟩
      have B_4 := Lib.hid (B_3.out.trans (hb.mono B_3.out.size))
      clear hb X_3 B_3
      go_wp2_with fail
      refine (known7_any _).mono ?_
      rintro e w5 ⟨rfl, hb⟩
      have B_5 := Lib.hid (B_4.out.trans (hb.mono B_4.out.size))
      clear hb B_4
      go_wp2
      go_ret
      exact ⟨rfl, B_5.out⟩
  · have hb2 : (fitE s l != 0) = true := by simpa using h0
    generalize fitE s l = E at *
    generalize fitE s l' = E' at *
    generalize applyS s l = TX at *
    generalize applyS s l' = TY at *
    have CF := Lib.hid cF; have CG := Lib.hid cG
    clear cF cG h0 h h' hd hd' hl hl' hs'
    go_enter Try.func21, Try.ntmps21
    go_wp2_with fail
    refine (cA.out _ _ H.out).mono ?_
    rintro e w1 ⟨x0, rfl, ho, hb⟩
    have K_1 := Lib.hid (K.out.ext hb)
    have X_1 := Lib.hid (Sl.of_own ho)
    have B_1 := Lib.hid hb
    clear hb ho H K
    go_wp2_with fail
    refine (CF.out _ _ X_1.out).mono ?_
    rintro e w2 ⟨rfl, hb⟩
    have K_2 := Lib.hid (K_1.out.ext hb)
    have B_2 := Lib.hid (B_1.out.trans (hb.mono B_1.out.size))
    clear hb X_1 K_1 B_1
    go_wp2_with fail
    refine (cB.out _ _ K_2.out).mono ?_
    rintro e w3 ⟨x2, rfl, ho, hb⟩
    have X_3 := Lib.hid (Sl.of_own ho)
    have B_3 := Lib.hid (B_2.out.trans (hb.mono B_2.out.size))
    clear hb ho K_2 B_2
    go_wp2_with fail
    refine (CG.out _ _ X_3.out).mono ?_
    rintro e w4 ⟨rfl, hb⟩
    have B_4 := Lib.hid (B_3.out.trans (hb.mono B_3.out.size))
    clear hb X_3 B_3
    go_wp2_with fail
    refine (known7_any _).mono ?_
    rintro e w5 ⟨rfl, hb⟩
    have B_5 := Lib.hid (B_4.out.trans (hb.mono B_4.out.size))
    clear hb B_4
    go_wp2
    go_ret
    exact ⟨rfl, B_5.out⟩

end Go.Proofs.Ytdlbjfgpfjcpaaa