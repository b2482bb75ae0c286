/- quartolaw05.ComposeBack returns true: the walk, where the composition with the inverse is the identity. -/
import Derived.Test.YtdlbjfgpfjcpaaaKnown5
import Derived.Test.YtdlbjfgpfjcpaaaPlainC3
namespace Go.Proofs.Ytdlbjfgpfjcpaaa
open Go.RowKit

set_option maxHeartbeats 8000000 in
set_option maxRecDepth 100000 in
theorem lawBack0 (s : List UInt8) (v : Value) (l : List Pc) (v' : Value) (l' : List Pc) (w : World) (hs : s.length ≤ 140737488351232) (h : Sl pcE w v l) (hd : ∀ p, p ∈ l → p.wf) (hl : l.length * 32 ≤ 140737488355328) (h' : Sl pcE w v' l') (hd' : ∀ p, p ∈ l' → p.wf) (hl' : l'.length * 32 ≤ 140737488355328) (h0 : fitE s l = 0) (hc : cmpE l (inverseS s l) = 0) (hg : removedS s l = []) :
    Calls Try.prog 12 #[.string ⟨s.toArray⟩, v, v'] w fun e w' => e = .returned (.bool true) ∧ Below w.heap.size w w' := by
  have hs' : s.length ≤ 9223372036854775807 := by omega
  have cOA := Lib.hid fun w x h => own5_any x l w h hl
  have cOB := Lib.hid fun w x h => own5_any x l' w h hl'
  have cA := fun w x h => apply_any s x l w hs' h hd
  have H := Lib.hid h; have K := Lib.hid h'
  obtain ⟨f1, f2, f3⟩ := fit_ok h0
  obtain ⟨b1, b2, b3, b4, b5, b6, b7⟩ := back h0
  obtain ⟨g1, g2⟩ := cmp_back h0
  have hT : (applyS s l).length ≤ 9223372036854775807 := by
    have e1 := (apply_eq h0).2
    have e2 := ((errL_iff l).1 f1).2.2.2
    omega
  have wV := wf_of_err b4
  have hid : idE s.length = 0 := by rw [← f3]; exact (idE_of f1).1
  have cI := fun w x h => invert_any s x l w hs' h hd
  have cOV := Lib.hid fun w x h => own5_any x (inverseS s l) w h (len32c b4)
  have cC := fun w x y h k => compose_any x y l (inverseS s l) w h k hd wV
  have cG := fun w x h => removed_any s x l w hs' h hd
  have cId := fun w => identity_any (s.length : Int) w
  have cW := fun w x h => invert_any (applyS s l) x l' w hT h hd'
  have cD := fun w x y h k => compose_any x y l l' w h k hd hd'
  rw [h0] at cA cI cG
  rw [hid] at cId
  rw [hc] at cC
  obtain ⟨u1, u2, u3, u4⟩ := g2 hc
  have eC := (cmpR_ok hc).2.1
  have wC := wf_of_err eC
  have cOC := Lib.hid fun w x h => own5_any x (cmpR l (inverseS s l)) w h (len32c eC)
  have cU := fun w x h => apply_any s x (cmpR l (inverseS s l)) w hs' h wC
  have cS := fun w x y h k => same_any x y (cmpR l (inverseS s l)) (idS s.length) w h k
  rw [u1, u2] at cU
  have hsm : sameB (cmpR l (inverseS s l)) (idS s.length) = true := (sameB_iff _ _).2 (u4.2 hg)
  rw [hsm] at cS
  rw [hg] at cG
  have cU' := Lib.hid cU; have cS' := Lib.hid cS
  clear cU cS u1 u2 u3 u4 eC wC hsm
  clear hg
  by_cases hw : fitE (applyS s l) l' = 0
  · rw [hw] at cW
    by_cases hz : cmpE l l' = 0
    · rw [hz] at cD
      obtain ⟨c1, c2, c3⟩ := cmp_applies h0 hz
      obtain ⟨d1, d2⟩ := cmp_inverse h0 hw hz
      have wD := wf_of_err (cmpR_ok hz).2.1
      have wW := wf_of_err (back hw).2.2.2.1
      have cX := fun w x h => invert_any s x (cmpR l l') w hs' h wD
      have cY := fun w x y h k => compose_any x y (inverseS (applyS s l) l') (inverseS s l) w h k wW wV
      rw [c1] at cX
      rw [d1, d2] at cY
      generalize inverseS s (cmpR l l') = XV at *
      generalize removedS s l = GG at *
      generalize cmpR l l' = DD at *
      generalize cmpR l (inverseS s l) = CC at *
      generalize inverseS (applyS s l) l' = WW at *
      generalize inverseS s l = VV at *
      generalize applyS s l = TT at *
      generalize idS s.length = II at *
      have cA' := Lib.hid cA; have cI' := Lib.hid cI; have cC' := Lib.hid cC; have cG' := Lib.hid cG; have cId' := Lib.hid cId; have cW' := Lib.hid cW; have cD' := Lib.hid cD
      have cX' := Lib.hid cX; have cY' := Lib.hid cY
      clear cX cY c1 c2 c3 d1 d2 wD wW
      clear cA cI cC cG cId cW cD h0 hc f1 f2 f3 b1 b2 b3 b4 b5 b6 b7 g1 g2 hT wV hid hw hz h h' hd hd' hl hl' hs hs'
      go_enter Try.func12, Try.ntmps12
      go_wp2_with fail
      refine (cOA.out _ _ H.out).mono ?_
      rintro e w1 ⟨x0, rfl, ho, hb⟩
      have H_1 := Lib.hid (H.out.ext hb)
      have K_1 := Lib.hid (K.out.ext hb)
      have X_1 := Lib.hid (Sl.of_own ho)
      have B_1 := Lib.hid hb
      clear hb ho H K
      go_wp2_with fail
      refine (cA'.out _ _ X_1.out).mono ?_
      rintro e w2 ⟨rfl, hb⟩
      have H_2 := Lib.hid (H_1.out.ext hb)
      have K_2 := Lib.hid (K_1.out.ext hb)
      have B_2 := Lib.hid (B_1.out.trans (hb.mono B_1.out.size))
      clear hb X_1 H_1 K_1 B_1
      go_wp2_with fail
      refine (cOA.out _ _ H_2.out).mono ?_
      rintro e w3 ⟨x2, rfl, ho, hb⟩
      have H_3 := Lib.hid (H_2.out.ext hb)
      have K_3 := Lib.hid (K_2.out.ext hb)
      have X_3 := Lib.hid (Sl.of_own ho)
      have B_3 := Lib.hid (B_2.out.trans (hb.mono B_2.out.size))
      clear hb ho H_2 K_2 B_2
      go_wp2_with fail
      refine (cI'.out _ _ X_3.out).mono ?_
      rintro e w4 ⟨vv, rfl, ho, hb⟩
      have H_4 := Lib.hid (H_3.out.ext hb)
      have K_4 := Lib.hid (K_3.out.ext hb)
      have V_4 := Lib.hid (Sl.of_own ho)
      have B_4 := Lib.hid (B_3.out.trans (hb.mono B_3.out.size))
      clear hb ho X_3 H_3 K_3 B_3
      go_wp2_with fail
      refine (cOA.out _ _ H_4.out).mono ?_
      rintro e w5 ⟨x4, rfl, ho, hb⟩
      have H_5 := Lib.hid (H_4.out.ext hb)
      have K_5 := Lib.hid (K_4.out.ext hb)
      have V_5 := Lib.hid (V_4.out.ext hb)
      have X_5 := Lib.hid (Sl.of_own ho)
      have B_5 := Lib.hid (B_4.out.trans (hb.mono B_4.out.size))
      clear hb ho H_4 K_4 V_4 B_4
      go_wp2_with fail
      refine (cOV.out _ _ V_5.out).mono ?_
      rintro e w6 ⟨x5, rfl, ho, hb⟩
      have H_6 := Lib.hid (H_5.out.ext hb)
      have K_6 := Lib.hid (K_5.out.ext hb)
      have V_6 := Lib.hid (V_5.out.ext hb)
      have X_6 := Lib.hid (X_5.out.ext hb)
      have Y_6 := Lib.hid (Sl.of_own ho)
      have B_6 := Lib.hid (B_5.out.trans (hb.mono B_5.out.size))
      clear hb ho H_5 K_5 V_5 X_5 B_5
      go_wp2_with fail
      refine (cC'.out _ _ _ X_6.out Y_6.out).mono ?_
      rintro e w7 ⟨vc, rfl, ho, hb⟩
      have H_7 := Lib.hid (H_6.out.ext hb)
      have K_7 := Lib.hid (K_6.out.ext hb)
      have V_7 := Lib.hid (V_6.out.ext hb)
      have C_7 := Lib.hid (Sl.of_own ho)
      have B_7 := Lib.hid (B_6.out.trans (hb.mono B_6.out.size))
      clear hb ho X_6 Y_6 H_6 K_6 V_6 B_6
      go_wp2_with fail
      refine (cOA.out _ _ H_7.out).mono ?_
      rintro e w8 ⟨x7, rfl, ho, hb⟩
      have H_8 := Lib.hid (H_7.out.ext hb)
      have K_8 := Lib.hid (K_7.out.ext hb)
      have V_8 := Lib.hid (V_7.out.ext hb)
      have C_8 := Lib.hid (C_7.out.ext hb)
      have X_8 := Lib.hid (Sl.of_own ho)
      have B_8 := Lib.hid (B_7.out.trans (hb.mono B_7.out.size))
      clear hb ho H_7 K_7 V_7 C_7 B_7
      go_wp2_with fail
      refine (cG'.out _ _ X_8.out).mono ?_
      rintro e w9 ⟨rfl, hb⟩
      have H_9 := Lib.hid (H_8.out.ext hb)
      have K_9 := Lib.hid (K_8.out.ext hb)
      have V_9 := Lib.hid (V_8.out.ext hb)
      have C_9 := Lib.hid (C_8.out.ext hb)
      have B_9 := Lib.hid (B_8.out.trans (hb.mono B_8.out.size))
      clear hb X_8 H_8 K_8 V_8 C_8 B_8
      go_wp2_with fail
      refine (cId'.out _).mono ?_
      rintro e w10 ⟨vi, rfl, ho, hb⟩
      have H_10 := Lib.hid (H_9.out.ext hb)
      have K_10 := Lib.hid (K_9.out.ext hb)
      have V_10 := Lib.hid (V_9.out.ext hb)
      have C_10 := Lib.hid (C_9.out.ext hb)
      have I_10 := Lib.hid (Sl.of_own ho)
      have B_10 := Lib.hid (B_9.out.trans (hb.mono B_9.out.size))
      clear hb ho H_9 K_9 V_9 C_9 B_9
      go_wp2_with fail
      refine (cOC.out _ _ C_10.out).mono ?_
      rintro e w11 ⟨x10, rfl, ho, hb⟩
      have H_11 := Lib.hid (H_10.out.ext hb)
      have K_11 := Lib.hid (K_10.out.ext hb)
      have V_11 := Lib.hid (V_10.out.ext hb)
      have C_11 := Lib.hid (C_10.out.ext hb)
      have I_11 := Lib.hid (I_10.out.ext hb)
      have X_11 := Lib.hid (Sl.of_own ho)
      have B_11 := Lib.hid (B_10.out.trans (hb.mono B_10.out.size))
      clear hb ho H_10 K_10 V_10 C_10 I_10 B_10
      go_wp2_with fail
      refine (cU'.out _ _ X_11.out).mono ?_
      rintro e w12 ⟨rfl, hb⟩
      have H_12 := Lib.hid (H_11.out.ext hb)
      have K_12 := Lib.hid (K_11.out.ext hb)
      have V_12 := Lib.hid (V_11.out.ext hb)
      have C_12 := Lib.hid (C_11.out.ext hb)
      have I_12 := Lib.hid (I_11.out.ext hb)
      have B_12 := Lib.hid (B_11.out.trans (hb.mono B_11.out.size))
      clear hb X_11 H_11 K_11 V_11 C_11 I_11 B_11
      go_wp2_with fail
      refine (cS'.out _ _ _ C_12.out I_12.out).mono ?_
      rintro e w13 ⟨rfl, hb⟩
      have H_13 := Lib.hid (H_12.out.ext hb)
      have K_13 := Lib.hid (K_12.out.ext hb)
      have V_13 := Lib.hid (V_12.out.ext hb)
      have B_13 := Lib.hid (B_12.out.trans (hb.mono B_12.out.size))
      clear hb C_12 I_12 H_12 K_12 V_12 B_12
      go_wp2_with fail
      refine (cOB.out _ _ K_13.out).mono ?_
      rintro e w14 ⟨x13, rfl, ho, hb⟩
      have H_14 := Lib.hid (H_13.out.ext hb)
      have K_14 := Lib.hid (K_13.out.ext hb)
      have V_14 := Lib.hid (V_13.out.ext hb)
      have X_14 := Lib.hid (Sl.of_own ho)
      have B_14 := Lib.hid (B_13.out.trans (hb.mono B_13.out.size))
      clear hb ho H_13 K_13 V_13 B_13
      go_wp2_with fail
      refine (cW'.out _ _ X_14.out).mono ?_
      rintro e w15 ⟨vw, rfl, ho, hb⟩
      have H_15 := Lib.hid (H_14.out.ext hb)
      have K_15 := Lib.hid (K_14.out.ext hb)
      have V_15 := Lib.hid (V_14.out.ext hb)
      have W_15 := Lib.hid (Sl.of_own ho)
      have B_15 := Lib.hid (B_14.out.trans (hb.mono B_14.out.size))
      clear hb ho X_14 H_14 K_14 V_14 B_14
      go_wp2_with fail
      refine (cOA.out _ _ H_15.out).mono ?_
      rintro e w16 ⟨x15, rfl, ho, hb⟩
      have K_16 := Lib.hid (K_15.out.ext hb)
      have V_16 := Lib.hid (V_15.out.ext hb)
      have W_16 := Lib.hid (W_15.out.ext hb)
      have X_16 := Lib.hid (Sl.of_own ho)
      have B_16 := Lib.hid (B_15.out.trans (hb.mono B_15.out.size))
      clear hb ho H_15 K_15 V_15 W_15 B_15
      go_wp2_with fail
      refine (cOB.out _ _ K_16.out).mono ?_
      rintro e w17 ⟨x16, rfl, ho, hb⟩
      have V_17 := Lib.hid (V_16.out.ext hb)
      have W_17 := Lib.hid (W_16.out.ext hb)
      have X_17 := Lib.hid (X_16.out.ext hb)
      have Y_17 := Lib.hid (Sl.of_own ho)
      have B_17 := Lib.hid (B_16.out.trans (hb.mono B_16.out.size))
      clear hb ho K_16 V_16 W_16 X_16 B_16
      go_wp2_with fail
      refine (cD'.out _ _ _ X_17.out Y_17.out).mono ?_
      rintro e w18 ⟨vd, rfl, ho, hb⟩
      have V_18 := Lib.hid (V_17.out.ext hb)
      have W_18 := Lib.hid (W_17.out.ext hb)
      have D_18 := Lib.hid (Sl.of_own ho)
      have B_18 := Lib.hid (B_17.out.trans (hb.mono B_17.out.size))
      clear hb ho X_17 Y_17 V_17 W_17 B_17
      go_wp2_with fail
      refine (cX'.out _ _ D_18.out).mono ?_
      rintro e w19 ⟨vx, rfl, ho, hb⟩
      have V_19 := Lib.hid (V_18.out.ext hb)
      have W_19 := Lib.hid (W_18.out.ext hb)
      have X_19 := Lib.hid (Sl.of_own ho)
      have B_19 := Lib.hid (B_18.out.trans (hb.mono B_18.out.size))
      clear hb ho D_18 V_18 W_18 B_18
      go_wp2_with fail
      refine (cY'.out _ _ _ W_19.out V_19.out).mono ?_
      rintro e w20 ⟨vy, rfl, ho, hb⟩
      have X_20 := Lib.hid (X_19.out.ext hb)
      have Y_20 := Lib.hid (Sl.of_own ho)
      have B_20 := Lib.hid (B_19.out.trans (hb.mono B_19.out.size))
      clear hb ho W_19 V_19 X_19 B_19
      go_wp2_with fail
      refine (same_any _ _ XV XV _ X_20.out Y_20.out).mono ?_
      rintro e w21 ⟨rfl, hb⟩
      have B_21 := Lib.hid (B_20.out.trans (hb.mono B_20.out.size))
      clear hb X_20 Y_20 B_20
      rw [sameB_refl XV]
      go_wp2_with fail
      refine (known5_any _).mono ?_
      rintro e w22 ⟨rfl, hb⟩
      have B_22 := Lib.hid (B_21.out.trans (hb.mono B_21.out.size))
      clear hb B_21
      go_wp2
      go_ret
      exact ⟨rfl, B_22.out⟩
    · have hb : (cmpE l l' != 0) = true := by simpa using hz
      generalize cmpE l l' = E at *
      generalize removedS s l = GG at *
      generalize cmpR l l' = DD at *
      generalize cmpR l (inverseS s l) = CC at *
      generalize inverseS (applyS s l) l' = WW at *
      generalize inverseS s l = VV at *
      generalize applyS s l = TT at *
      generalize idS s.length = II at *
      have cA' := Lib.hid cA; have cI' := Lib.hid cI; have cC' := Lib.hid cC; have cG' := Lib.hid cG; have cId' := Lib.hid cId; have cW' := Lib.hid cW; have cD' := Lib.hid cD
      clear cA cI cC cG cId cW cD h0 hc f1 f2 f3 b1 b2 b3 b4 b5 b6 b7 g1 g2 hT wV hid hw hz h h' hd hd' hl hl' hs hs'
      go_enter Try.func12, Try.ntmps12
      go_wp2_with fail
      refine (cOA.out _ _ H.out).mono ?_
      rintro e w1 ⟨x0, rfl, ho, hb⟩
      have H_1 := Lib.hid (H.out.ext hb)
      have K_1 := Lib.hid (K.out.ext hb)
      have X_1 := Lib.hid (Sl.of_own ho)
      have B_1 := Lib.hid hb
      clear hb ho H K
      go_wp2_with fail
      refine (cA'.out _ _ X_1.out).mono ?_
      rintro e w2 ⟨rfl, hb⟩
      have H_2 := Lib.hid (H_1.out.ext hb)
      have K_2 := Lib.hid (K_1.out.ext hb)
      have B_2 := Lib.hid (B_1.out.trans (hb.mono B_1.out.size))
      clear hb X_1 H_1 K_1 B_1
      go_wp2_with fail
      refine (cOA.out _ _ H_2.out).mono ?_
      rintro e w3 ⟨x2, rfl, ho, hb⟩
      have H_3 := Lib.hid (H_2.out.ext hb)
      have K_3 := Lib.hid (K_2.out.ext hb)
      have X_3 := Lib.hid (Sl.of_own ho)
      have B_3 := Lib.hid (B_2.out.trans (hb.mono B_2.out.size))
      clear hb ho H_2 K_2 B_2
      go_wp2_with fail
      refine (cI'.out _ _ X_3.out).mono ?_
      rintro e w4 ⟨vv, rfl, ho, hb⟩
      have H_4 := Lib.hid (H_3.out.ext hb)
      have K_4 := Lib.hid (K_3.out.ext hb)
      have V_4 := Lib.hid (Sl.of_own ho)
      have B_4 := Lib.hid (B_3.out.trans (hb.mono B_3.out.size))
      clear hb ho X_3 H_3 K_3 B_3
      go_wp2_with fail
      refine (cOA.out _ _ H_4.out).mono ?_
      rintro e w5 ⟨x4, rfl, ho, hb⟩
      have H_5 := Lib.hid (H_4.out.ext hb)
      have K_5 := Lib.hid (K_4.out.ext hb)
      have V_5 := Lib.hid (V_4.out.ext hb)
      have X_5 := Lib.hid (Sl.of_own ho)
      have B_5 := Lib.hid (B_4.out.trans (hb.mono B_4.out.size))
      clear hb ho H_4 K_4 V_4 B_4
      go_wp2_with fail
      refine (cOV.out _ _ V_5.out).mono ?_
      rintro e w6 ⟨x5, rfl, ho, hb⟩
      have H_6 := Lib.hid (H_5.out.ext hb)
      have K_6 := Lib.hid (K_5.out.ext hb)
      have V_6 := Lib.hid (V_5.out.ext hb)
      have X_6 := Lib.hid (X_5.out.ext hb)
      have Y_6 := Lib.hid (Sl.of_own ho)
      have B_6 := Lib.hid (B_5.out.trans (hb.mono B_5.out.size))
      clear hb ho H_5 K_5 V_5 X_5 B_5
      go_wp2_with fail
      refine (cC'.out _ _ _ X_6.out Y_6.out).mono ?_
      rintro e w7 ⟨vc, rfl, ho, hb⟩
      have H_7 := Lib.hid (H_6.out.ext hb)
      have K_7 := Lib.hid (K_6.out.ext hb)
      have V_7 := Lib.hid (V_6.out.ext hb)
      have C_7 := Lib.hid (Sl.of_own ho)
      have B_7 := Lib.hid (B_6.out.trans (hb.mono B_6.out.size))
      clear hb ho X_6 Y_6 H_6 K_6 V_6 B_6
      go_wp2_with fail
      refine (cOA.out _ _ H_7.out).mono ?_
      rintro e w8 ⟨x7, rfl, ho, hb⟩
      have H_8 := Lib.hid (H_7.out.ext hb)
      have K_8 := Lib.hid (K_7.out.ext hb)
      have V_8 := Lib.hid (V_7.out.ext hb)
      have C_8 := Lib.hid (C_7.out.ext hb)
      have X_8 := Lib.hid (Sl.of_own ho)
      have B_8 := Lib.hid (B_7.out.trans (hb.mono B_7.out.size))
      clear hb ho H_7 K_7 V_7 C_7 B_7
      go_wp2_with fail
      refine (cG'.out _ _ X_8.out).mono ?_
      rintro e w9 ⟨rfl, hb⟩
      have H_9 := Lib.hid (H_8.out.ext hb)
      have K_9 := Lib.hid (K_8.out.ext hb)
      have V_9 := Lib.hid (V_8.out.ext hb)
      have C_9 := Lib.hid (C_8.out.ext hb)
      have B_9 := Lib.hid (B_8.out.trans (hb.mono B_8.out.size))
      clear hb X_8 H_8 K_8 V_8 C_8 B_8
      go_wp2_with fail
      refine (cId'.out _).mono ?_
      rintro e w10 ⟨vi, rfl, ho, hb⟩
      have H_10 := Lib.hid (H_9.out.ext hb)
      have K_10 := Lib.hid (K_9.out.ext hb)
      have V_10 := Lib.hid (V_9.out.ext hb)
      have C_10 := Lib.hid (C_9.out.ext hb)
      have I_10 := Lib.hid (Sl.of_own ho)
      have B_10 := Lib.hid (B_9.out.trans (hb.mono B_9.out.size))
      clear hb ho H_9 K_9 V_9 C_9 B_9
      go_wp2_with fail
      refine (cOC.out _ _ C_10.out).mono ?_
      rintro e w11 ⟨x10, rfl, ho, hb⟩
      have H_11 := Lib.hid (H_10.out.ext hb)
      have K_11 := Lib.hid (K_10.out.ext hb)
      have V_11 := Lib.hid (V_10.out.ext hb)
      have C_11 := Lib.hid (C_10.out.ext hb)
      have I_11 := Lib.hid (I_10.out.ext hb)
      have X_11 := Lib.hid (Sl.of_own ho)
      have B_11 := Lib.hid (B_10.out.trans (hb.mono B_10.out.size))
      clear hb ho H_10 K_10 V_10 C_10 I_10 B_10
      go_wp2_with fail
      refine (cU'.out _ _ X_11.out).mono ?_
      rintro e w12 ⟨rfl, hb⟩
      have H_12 := Lib.hid (H_11.out.ext hb)
      have K_12 := Lib.hid (K_11.out.ext hb)
      have V_12 := Lib.hid (V_11.out.ext hb)
      have C_12 := Lib.hid (C_11.out.ext hb)
      have I_12 := Lib.hid (I_11.out.ext hb)
      have B_12 := Lib.hid (B_11.out.trans (hb.mono B_11.out.size))
      clear hb X_11 H_11 K_11 V_11 C_11 I_11 B_11
      go_wp2_with fail
      refine (cS'.out _ _ _ C_12.out I_12.out).mono ?_
      rintro e w13 ⟨rfl, hb⟩
      have H_13 := Lib.hid (H_12.out.ext hb)
      have K_13 := Lib.hid (K_12.out.ext hb)
      have V_13 := Lib.hid (V_12.out.ext hb)
      have B_13 := Lib.hid (B_12.out.trans (hb.mono B_12.out.size))
      clear hb C_12 I_12 H_12 K_12 V_12 B_12
      go_wp2_with fail
      refine (cOB.out _ _ K_13.out).mono ?_
      rintro e w14 ⟨x13, rfl, ho, hb⟩
      have H_14 := Lib.hid (H_13.out.ext hb)
      have K_14 := Lib.hid (K_13.out.ext hb)
      have V_14 := Lib.hid (V_13.out.ext hb)
      have X_14 := Lib.hid (Sl.of_own ho)
      have B_14 := Lib.hid (B_13.out.trans (hb.mono B_13.out.size))
      clear hb ho H_13 K_13 V_13 B_13
      go_wp2_with fail
      refine (cW'.out _ _ X_14.out).mono ?_
      rintro e w15 ⟨vw, rfl, ho, hb⟩
      have H_15 := Lib.hid (H_14.out.ext hb)
      have K_15 := Lib.hid (K_14.out.ext hb)
      have V_15 := Lib.hid (V_14.out.ext hb)
      have W_15 := Lib.hid (Sl.of_own ho)
      have B_15 := Lib.hid (B_14.out.trans (hb.mono B_14.out.size))
      clear hb ho X_14 H_14 K_14 V_14 B_14
      go_wp2_with fail
      refine (cOA.out _ _ H_15.out).mono ?_
      rintro e w16 ⟨x15, rfl, ho, hb⟩
      have K_16 := Lib.hid (K_15.out.ext hb)
      have V_16 := Lib.hid (V_15.out.ext hb)
      have W_16 := Lib.hid (W_15.out.ext hb)
      have X_16 := Lib.hid (Sl.of_own ho)
      have B_16 := Lib.hid (B_15.out.trans (hb.mono B_15.out.size))
      clear hb ho H_15 K_15 V_15 W_15 B_15
      go_wp2_with fail
      refine (cOB.out _ _ K_16.out).mono ?_
      rintro e w17 ⟨x16, rfl, ho, hb⟩
      have V_17 := Lib.hid (V_16.out.ext hb)
      have W_17 := Lib.hid (W_16.out.ext hb)
      have X_17 := Lib.hid (X_16.out.ext hb)
      have Y_17 := Lib.hid (Sl.of_own ho)
      have B_17 := Lib.hid (B_16.out.trans (hb.mono B_16.out.size))
      clear hb ho K_16 V_16 W_16 X_16 B_16
      go_wp2_with fail
      refine (cD'.out _ _ _ X_17.out Y_17.out).mono ?_
      rintro e w18 ⟨vd, rfl, ho, hb⟩
      have V_18 := Lib.hid (V_17.out.ext hb)
      have W_18 := Lib.hid (W_17.out.ext hb)
      have D_18 := Lib.hid (Sl.of_own ho)
      have B_18 := Lib.hid (B_17.out.trans (hb.mono B_17.out.size))
      clear hb ho X_17 Y_17 V_17 W_17 B_17
      go_wp2_with fail
      refine (known5_any _).mono ?_
      rintro e w19 ⟨rfl, hb⟩
      have B_19 := Lib.hid (B_18.out.trans (hb.mono B_18.out.size))
      clear hb W_18 D_18 V_18 B_18
      go_wp2
      go_ret
      exact ⟨rfl, B_19.out⟩
  · have hb : (fitE (applyS s l) l' != 0) = true := by simpa using hw
    generalize fitE (applyS s l) l' = E at *
    generalize cmpE l l' = F at *
    generalize removedS s l = GG at *
    generalize cmpR l l' = DD at *
    generalize cmpR l (inverseS s l) = CC at *
    generalize inverseS (applyS s l) l' = WW at *
    generalize inverseS s l = VV at *
    generalize applyS s l = TT at *
    generalize idS s.length = II at *
    have cA' := Lib.hid cA; have cI' := Lib.hid cI; have cC' := Lib.hid cC; have cG' := Lib.hid cG; have cId' := Lib.hid cId; have cW' := Lib.hid cW; have cD' := Lib.hid cD
    clear cA cI cC cG cId cW cD h0 hc f1 f2 f3 b1 b2 b3 b4 b5 b6 b7 g1 g2 hT wV hid hw h h' hd hd' hl hl' hs hs'
    go_enter Try.func12, Try.ntmps12
    go_wp2_with fail
    refine (cOA.out _ _ H.out).mono ?_
    rintro e w1 ⟨x0, rfl, ho, hb⟩
    have H_1 := Lib.hid (H.out.ext hb)
    have K_1 := Lib.hid (K.out.ext hb)
    have X_1 := Lib.hid (Sl.of_own ho)
    have B_1 := Lib.hid hb
    clear hb ho H K
    go_wp2_with fail
    refine (cA'.out _ _ X_1.out).mono ?_
    rintro e w2 ⟨rfl, hb⟩
    have H_2 := Lib.hid (H_1.out.ext hb)
    have K_2 := Lib.hid (K_1.out.ext hb)
    have B_2 := Lib.hid (B_1.out.trans (hb.mono B_1.out.size))
    clear hb X_1 H_1 K_1 B_1
    go_wp2_with fail
    refine (cOA.out _ _ H_2.out).mono ?_
    rintro e w3 ⟨x2, rfl, ho, hb⟩
    have H_3 := Lib.hid (H_2.out.ext hb)
    have K_3 := Lib.hid (K_2.out.ext hb)
    have X_3 := Lib.hid (Sl.of_own ho)
    have B_3 := Lib.hid (B_2.out.trans (hb.mono B_2.out.size))
    clear hb ho H_2 K_2 B_2
    go_wp2_with fail
    refine (cI'.out _ _ X_3.out).mono ?_
    rintro e w4 ⟨vv, rfl, ho, hb⟩
    have H_4 := Lib.hid (H_3.out.ext hb)
    have K_4 := Lib.hid (K_3.out.ext hb)
    have V_4 := Lib.hid (Sl.of_own ho)
    have B_4 := Lib.hid (B_3.out.trans (hb.mono B_3.out.size))
    clear hb ho X_3 H_3 K_3 B_3
    go_wp2_with fail
    refine (cOA.out _ _ H_4.out).mono ?_
    rintro e w5 ⟨x4, rfl, ho, hb⟩
    have H_5 := Lib.hid (H_4.out.ext hb)
    have K_5 := Lib.hid (K_4.out.ext hb)
    have V_5 := Lib.hid (V_4.out.ext hb)
    have X_5 := Lib.hid (Sl.of_own ho)
    have B_5 := Lib.hid (B_4.out.trans (hb.mono B_4.out.size))
    clear hb ho H_4 K_4 V_4 B_4
    go_wp2_with fail
    refine (cOV.out _ _ V_5.out).mono ?_
    rintro e w6 ⟨x5, rfl, ho, hb⟩
    have H_6 := Lib.hid (H_5.out.ext hb)
    have K_6 := Lib.hid (K_5.out.ext hb)
    have V_6 := Lib.hid (V_5.out.ext hb)
    have X_6 := Lib.hid (X_5.out.ext hb)
    have Y_6 := Lib.hid (Sl.of_own ho)
    have B_6 := Lib.hid (B_5.out.trans (hb.mono B_5.out.size))
    clear hb ho H_5 K_5 V_5 X_5 B_5
    go_wp2_with fail
    refine (cC'.out _ _ _ X_6.out Y_6.out).mono ?_
    rintro e w7 ⟨vc, rfl, ho, hb⟩
    have H_7 := Lib.hid (H_6.out.ext hb)
    have K_7 := Lib.hid (K_6.out.ext hb)
    have V_7 := Lib.hid (V_6.out.ext hb)
    have C_7 := Lib.hid (Sl.of_own ho)
    have B_7 := Lib.hid (B_6.out.trans (hb.mono B_6.out.size))
    clear hb ho X_6 Y_6 H_6 K_6 V_6 B_6
    go_wp2_with fail
    refine (cOA.out _ _ H_7.out).mono ?_
    rintro e w8 ⟨x7, rfl, ho, hb⟩
    have H_8 := Lib.hid (H_7.out.ext hb)
    have K_8 := Lib.hid (K_7.out.ext hb)
    have V_8 := Lib.hid (V_7.out.ext hb)
    have C_8 := Lib.hid (C_7.out.ext hb)
    have X_8 := Lib.hid (Sl.of_own ho)
    have B_8 := Lib.hid (B_7.out.trans (hb.mono B_7.out.size))
    clear hb ho H_7 K_7 V_7 C_7 B_7
    go_wp2_with fail
    refine (cG'.out _ _ X_8.out).mono ?_
    rintro e w9 ⟨rfl, hb⟩
    have H_9 := Lib.hid (H_8.out.ext hb)
    have K_9 := Lib.hid (K_8.out.ext hb)
    have V_9 := Lib.hid (V_8.out.ext hb)
    have C_9 := Lib.hid (C_8.out.ext hb)
    have B_9 := Lib.hid (B_8.out.trans (hb.mono B_8.out.size))
    clear hb X_8 H_8 K_8 V_8 C_8 B_8
    go_wp2_with fail
    refine (cId'.out _).mono ?_
    rintro e w10 ⟨vi, rfl, ho, hb⟩
    have H_10 := Lib.hid (H_9.out.ext hb)
    have K_10 := Lib.hid (K_9.out.ext hb)
    have V_10 := Lib.hid (V_9.out.ext hb)
    have C_10 := Lib.hid (C_9.out.ext hb)
    have I_10 := Lib.hid (Sl.of_own ho)
    have B_10 := Lib.hid (B_9.out.trans (hb.mono B_9.out.size))
    clear hb ho H_9 K_9 V_9 C_9 B_9
    go_wp2_with fail
    refine (cOC.out _ _ C_10.out).mono ?_
    rintro e w11 ⟨x10, rfl, ho, hb⟩
    have H_11 := Lib.hid (H_10.out.ext hb)
    have K_11 := Lib.hid (K_10.out.ext hb)
    have V_11 := Lib.hid (V_10.out.ext hb)
    have C_11 := Lib.hid (C_10.out.ext hb)
    have I_11 := Lib.hid (I_10.out.ext hb)
    have X_11 := Lib.hid (Sl.of_own ho)
    have B_11 := Lib.hid (B_10.out.trans (hb.mono B_10.out.size))
    clear hb ho H_10 K_10 V_10 C_10 I_10 B_10
    go_wp2_with fail
    refine (cU'.out _ _ X_11.out).mono ?_
    rintro e w12 ⟨rfl, hb⟩
    have H_12 := Lib.hid (H_11.out.ext hb)
    have K_12 := Lib.hid (K_11.out.ext hb)
    have V_12 := Lib.hid (V_11.out.ext hb)
    have C_12 := Lib.hid (C_11.out.ext hb)
    have I_12 := Lib.hid (I_11.out.ext hb)
    have B_12 := Lib.hid (B_11.out.trans (hb.mono B_11.out.size))
    clear hb X_11 H_11 K_11 V_11 C_11 I_11 B_11
    go_wp2_with fail
    refine (cS'.out _ _ _ C_12.out I_12.out).mono ?_
    rintro e w13 ⟨rfl, hb⟩
    have H_13 := Lib.hid (H_12.out.ext hb)
    have K_13 := Lib.hid (K_12.out.ext hb)
    have V_13 := Lib.hid (V_12.out.ext hb)
    have B_13 := Lib.hid (B_12.out.trans (hb.mono B_12.out.size))
    clear hb C_12 I_12 H_12 K_12 V_12 B_12
    go_wp2_with fail
    refine (cOB.out _ _ K_13.out).mono ?_
    rintro e w14 ⟨x13, rfl, ho, hb⟩
    have H_14 := Lib.hid (H_13.out.ext hb)
    have K_14 := Lib.hid (K_13.out.ext hb)
    have V_14 := Lib.hid (V_13.out.ext hb)
    have X_14 := Lib.hid (Sl.of_own ho)
    have B_14 := Lib.hid (B_13.out.trans (hb.mono B_13.out.size))
    clear hb ho H_13 K_13 V_13 B_13
    go_wp2_with fail
    refine (cW'.out _ _ X_14.out).mono ?_
    rintro e w15 ⟨vw, rfl, ho, hb⟩
    have H_15 := Lib.hid (H_14.out.ext hb)
    have K_15 := Lib.hid (K_14.out.ext hb)
    have V_15 := Lib.hid (V_14.out.ext hb)
    have W_15 := Lib.hid (Sl.of_own ho)
    have B_15 := Lib.hid (B_14.out.trans (hb.mono B_14.out.size))
    clear hb ho X_14 H_14 K_14 V_14 B_14
    go_wp2_with fail
    refine (cOA.out _ _ H_15.out).mono ?_
    rintro e w16 ⟨x15, rfl, ho, hb⟩
    have K_16 := Lib.hid (K_15.out.ext hb)
    have V_16 := Lib.hid (V_15.out.ext hb)
    have W_16 := Lib.hid (W_15.out.ext hb)
    have X_16 := Lib.hid (Sl.of_own ho)
    have B_16 := Lib.hid (B_15.out.trans (hb.mono B_15.out.size))
    clear hb ho H_15 K_15 V_15 W_15 B_15
    go_wp2_with fail
    refine (cOB.out _ _ K_16.out).mono ?_
    rintro e w17 ⟨x16, rfl, ho, hb⟩
    have V_17 := Lib.hid (V_16.out.ext hb)
    have W_17 := Lib.hid (W_16.out.ext hb)
    have X_17 := Lib.hid (X_16.out.ext hb)
    have Y_17 := Lib.hid (Sl.of_own ho)
    have B_17 := Lib.hid (B_16.out.trans (hb.mono B_16.out.size))
    clear hb ho K_16 V_16 W_16 X_16 B_16
    go_wp2_with fail
    refine (cD'.out _ _ _ X_17.out Y_17.out).mono ?_
    rintro e w18 ⟨vd, rfl, ho, hb⟩
    have V_18 := Lib.hid (V_17.out.ext hb)
    have W_18 := Lib.hid (W_17.out.ext hb)
    have D_18 := Lib.hid (Sl.of_own ho)
    have B_18 := Lib.hid (B_17.out.trans (hb.mono B_17.out.size))
    clear hb ho X_17 Y_17 V_17 W_17 B_17
    go_wp2_with fail
    refine (known5_any _).mono ?_
    rintro e w19 ⟨rfl, hb⟩
    have B_19 := Lib.hid (B_18.out.trans (hb.mono B_18.out.size))
    clear hb W_18 D_18 V_18 B_18
    go_wp2
    go_ret
    exact ⟨rfl, B_19.out⟩

end Go.Proofs.Ytdlbjfgpfjcpaaa