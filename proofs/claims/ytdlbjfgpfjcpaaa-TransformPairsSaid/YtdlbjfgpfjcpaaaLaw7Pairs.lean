/- quartolaw07.TransformPairs returns true: the walk. -/
import Derived.Test.YtdlbjfgpfjcpaaaKnown7
import Derived.Test.YtdlbjfgpfjcpaaaRef7d
namespace Go.Proofs.Ytdlbjfgpfjcpaaa
open Go.RowKit

set_option maxHeartbeats 8000000 in
set_option maxRecDepth 100000 in
theorem lawTransformPairs_any (v : Value) (l : List Pc) (v' : Value) (l' : List Pc) (w : World) (h : Sl pcE w v l) (hd : ∀ p, p ∈ l → p.wf) (hl : l.length * 32 ≤ 140737488355328) (ht : ∀ p, p ∈ l → p.t.length ≤ 140737488355328) (h' : Sl pcE w v' l') (hd' : ∀ p, p ∈ l' → p.wf) (hl' : l'.length * 32 ≤ 140737488355328) (ht' : ∀ p, p ∈ l' → p.t.length ≤ 140737488355328) :
    Calls Try.prog 14 #[v, v'] w fun e w' => e = .returned (.bool true) ∧ Below w.heap.size w w' := by
  have cA := Lib.hid fun w x h => own7_any x l w h hl
  have cB := Lib.hid fun w x h => own7_any x l' w h hl'
  have cL := fun w h => large_any v l w h hd ht
  have cM := fun w h => large_any v' l' w h hd' ht'
  have H := Lib.hid h; have K := Lib.hid h'
  cases A : largeB l with
  | true =>
    rw [A] at cL
    have CL := Lib.hid cL
    clear cL cM A h h' hd hd' hl hl' ht ht'
    go_enter Try.func14, Try.ntmps14
    go_wp2_with fail
    refine (CL.out _ H.out).mono ?_
    rintro e w1 ⟨rfl, hb⟩
    have B_1 := Lib.hid hb
    clear hb H K
    go_wp2_with fail
    refine (known7_any _).mono ?_
    rintro e w2 ⟨rfl, hb⟩
    have B_2 := Lib.hid (B_1.out.trans (hb.mono B_1.out.size))
    clear hb B_1
    go_wp2
    go_ret
    exact ⟨rfl, B_2.out⟩
  | false =>
    rw [A] at cL
    cases A' : largeB l' with
    | true =>
      rw [A'] at cM
      have CL := Lib.hid cL; have CM := Lib.hid cM
      clear cL cM A A' h h' hd hd' hl hl' ht ht'
      go_enter Try.func14, Try.ntmps14
      go_wp2_with fail
      refine (CL.out _ H.out).mono ?_
      rintro e w1 ⟨rfl, hb⟩
      have K_1 := Lib.hid (K.out.ext hb)
      have B_1 := Lib.hid hb
      clear hb H K
      go_wp2_with fail
      refine (CM.out _ K_1.out).mono ?_
      rintro e w2 ⟨rfl, hb⟩
      have B_2 := Lib.hid (B_1.out.trans (hb.mono B_1.out.size))
      clear hb K_1 B_1
      go_wp2_with fail
      refine (known7_any _).mono ?_
      rintro e w3 ⟨rfl, hb⟩
      have B_3 := Lib.hid (B_2.out.trans (hb.mono B_2.out.size))
      clear hb B_2
      go_wp2
      go_ret
      exact ⟨rfl, B_3.out⟩
    | false =>
      rw [A'] at cM
      have b1 : prE l l' = 0 → outL l + iN l' ≤ 49000 := fun e => by
        obtain ⟨ea, eb, -⟩ := prE_ok e
        have := small_out A ea
        have := small_out A' eb
        have := (kN_in ((errL_iff l').1 eb).2.1)
        omega
      have b2 : prE l' l = 0 → outL l' + iN l ≤ 49000 := fun e => by
        obtain ⟨eb, ea, -⟩ := prE_ok e
        have := small_out A ea
        have := small_out A' eb
        have := (kN_in ((errL_iff l).1 ea).2.1)
        omega
      have c1 := fun w x y h k => tpair_any x y l l' w h k hd hd'
      have c2 := fun w h k => refPair7_any v v' l l' w h k hd hd' b1 b2
      have c3 := fun w x y h k => merge_any x y l l' w h k hd hd'
      have c4 := fun w h k => refMerge7_any v v' l l' w h k hd hd' b1
      generalize tpE l l' = E at *
      generalize tpA l l' = P at *
      generalize tpB l l' = Q at *
      generalize merE l l' = F at *
      generalize merR l l' = M at *
      have CL := Lib.hid cL; have CM := Lib.hid cM; have C1 := Lib.hid c1; have C2 := Lib.hid c2; have C3 := Lib.hid c3; have C4 := Lib.hid c4
      clear cL cM c1 c2 c3 c4 b1 b2 A A' h h' hd hd' hl hl' ht ht'
      go_enter Try.func14, Try.ntmps14
      go_wp2_with fail
      refine (CL.out _ H.out).mono ?_
      rintro e w1 ⟨rfl, hb⟩
      have H_1 := Lib.hid (H.out.ext hb)
      have K_1 := Lib.hid (K.out.ext hb)
      have B_1 := Lib.hid hb
      clear hb H K
      go_wp2_with fail
      refine (CM.out _ K_1.out).mono ?_
      rintro e w2 ⟨rfl, hb⟩
      have H_2 := Lib.hid (H_1.out.ext hb)
      have K_2 := Lib.hid (K_1.out.ext hb)
      have B_2 := Lib.hid (B_1.out.trans (hb.mono B_1.out.size))
      clear hb H_1 K_1 B_1
      go_wp2_with fail
      refine (cA.out _ _ H_2.out).mono ?_
      rintro e w3 ⟨x2, rfl, ho, hb⟩
      have H_3 := Lib.hid (H_2.out.ext hb)
      have K_3 := Lib.hid (K_2.out.ext hb)
      have X_3 := Lib.hid (Sl.of_own ho)
      have B_3 := Lib.hid (B_2.out.trans (hb.mono B_2.out.size))
      clear hb ho H_2 K_2 B_2
      go_wp2_with fail
      refine (cB.out _ _ K_3.out).mono ?_
      rintro e w4 ⟨x3, rfl, ho, hb⟩
      have H_4 := Lib.hid (H_3.out.ext hb)
      have K_4 := Lib.hid (K_3.out.ext hb)
      have X_4 := Lib.hid (X_3.out.ext hb)
      have Y_4 := Lib.hid (Sl.of_own ho)
      have B_4 := Lib.hid (B_3.out.trans (hb.mono B_3.out.size))
      clear hb ho H_3 K_3 X_3 B_3
      go_wp2_with fail
      refine (C1.out _ _ _ X_4.out Y_4.out).mono ?_
      rintro e w5 ⟨va5, vb5, rfl, ho, ho2, hb⟩
      have H_5 := Lib.hid (H_4.out.ext hb)
      have K_5 := Lib.hid (K_4.out.ext hb)
      have X_5 := Lib.hid (X_4.out.ext hb)
      have Y_5 := Lib.hid (Y_4.out.ext hb)
      have P_5 := Lib.hid (Sl.of_own ho); have Q_5 := Lib.hid (Sl.of_own ho2)
      have B_5 := Lib.hid (B_4.out.trans (hb.mono B_4.out.size))
      clear hb ho ho2 H_4 K_4 X_4 Y_4 B_4
      go_wp2_with fail
      refine (C2.out _ H_5.out K_5.out).mono ?_
      rintro e w6 ⟨va6, vb6, rfl, ho, ho2, hb⟩
      have H_6 := Lib.hid (H_5.out.ext hb)
      have K_6 := Lib.hid (K_5.out.ext hb)
      have X_6 := Lib.hid (X_5.out.ext hb)
      have Y_6 := Lib.hid (Y_5.out.ext hb)
      have P_6 := Lib.hid (P_5.out.ext hb)
      have Q_6 := Lib.hid (Q_5.out.ext hb)
      have R_6 := Lib.hid (Sl.of_own ho); have S_6 := Lib.hid (Sl.of_own ho2)
      have B_6 := Lib.hid (B_5.out.trans (hb.mono B_5.out.size))
      clear hb ho ho2 H_5 K_5 X_5 Y_5 P_5 Q_5 B_5
      go_wp2_with fail
      refine (C3.out _ _ _ X_6.out Y_6.out).mono ?_
      rintro e w7 ⟨vm, rfl, ho, hb⟩
      have H_7 := Lib.hid (H_6.out.ext hb)
      have K_7 := Lib.hid (K_6.out.ext hb)
      have X_7 := Lib.hid (X_6.out.ext hb)
      have Y_7 := Lib.hid (Y_6.out.ext hb)
      have P_7 := Lib.hid (P_6.out.ext hb)
      have Q_7 := Lib.hid (Q_6.out.ext hb)
      have R_7 := Lib.hid (R_6.out.ext hb)
      have S_7 := Lib.hid (S_6.out.ext hb)
      have M_7 := Lib.hid (Sl.of_own ho)
      have B_7 := Lib.hid (B_6.out.trans (hb.mono B_6.out.size))
      clear hb ho H_6 K_6 X_6 Y_6 P_6 Q_6 R_6 S_6 B_6
      go_wp2_with fail
      refine (C4.out _ H_7.out K_7.out).mono ?_
      rintro e w8 ⟨vn, rfl, ho, hb⟩
      have H_8 := Lib.hid (H_7.out.ext hb)
      have K_8 := Lib.hid (K_7.out.ext hb)
      have X_8 := Lib.hid (X_7.out.ext hb)
      have Y_8 := Lib.hid (Y_7.out.ext hb)
      have P_8 := Lib.hid (P_7.out.ext hb)
      have Q_8 := Lib.hid (Q_7.out.ext hb)
      have R_8 := Lib.hid (R_7.out.ext hb)
      have S_8 := Lib.hid (S_7.out.ext hb)
      have M_8 := Lib.hid (M_7.out.ext hb)
      have N_8 := Lib.hid (Sl.of_own ho)
      have B_8 := Lib.hid (B_7.out.trans (hb.mono B_7.out.size))
      clear hb ho H_7 K_7 X_7 Y_7 P_7 Q_7 R_7 S_7 M_7 B_7
      go_wp2_with fail
      refine (same_any _ _ P P _ P_8.out R_8.out).mono ?_
      rintro e w9 ⟨rfl, hb⟩
      have H_9 := Lib.hid (H_8.out.ext hb)
      have K_9 := Lib.hid (K_8.out.ext hb)
      have X_9 := Lib.hid (X_8.out.ext hb)
      have Y_9 := Lib.hid (Y_8.out.ext hb)
      have Q_9 := Lib.hid (Q_8.out.ext hb)
      have S_9 := Lib.hid (S_8.out.ext hb)
      have M_9 := Lib.hid (M_8.out.ext hb)
      have N_9 := Lib.hid (N_8.out.ext hb)
      have B_9 := Lib.hid (B_8.out.trans (hb.mono B_8.out.size))
      clear hb P_8 R_8 H_8 K_8 X_8 Y_8 Q_8 S_8 M_8 N_8 B_8
      rw [sameB_refl P]
      go_wp2_with fail
      refine (same_any _ _ Q Q _ Q_9.out S_9.out).mono ?_
      rintro e w10 ⟨rfl, hb⟩
      have H_10 := Lib.hid (H_9.out.ext hb)
      have K_10 := Lib.hid (K_9.out.ext hb)
      have X_10 := Lib.hid (X_9.out.ext hb)
      have Y_10 := Lib.hid (Y_9.out.ext hb)
      have M_10 := Lib.hid (M_9.out.ext hb)
      have N_10 := Lib.hid (N_9.out.ext hb)
      have B_10 := Lib.hid (B_9.out.trans (hb.mono B_9.out.size))
      clear hb Q_9 S_9 H_9 K_9 X_9 Y_9 M_9 N_9 B_9
      rw [sameB_refl Q]
      go_wp2_with fail
      refine (same_any _ _ M M _ M_10.out N_10.out).mono ?_
      rintro e w11 ⟨rfl, hb⟩
      have H_11 := Lib.hid (H_10.out.ext hb)
      have K_11 := Lib.hid (K_10.out.ext hb)
      have X_11 := Lib.hid (X_10.out.ext hb)
      have Y_11 := Lib.hid (Y_10.out.ext hb)
      have B_11 := Lib.hid (B_10.out.trans (hb.mono B_10.out.size))
      clear hb M_10 N_10 H_10 K_10 X_10 Y_10 B_10
      rw [sameB_refl M]
      go_wp2_with fail
      refine (same_any _ _ l l _ X_11.out H_11.out).mono ?_
      rintro e w12 ⟨rfl, hb⟩
      have K_12 := Lib.hid (K_11.out.ext hb)
      have Y_12 := Lib.hid (Y_11.out.ext hb)
      have B_12 := Lib.hid (B_11.out.trans (hb.mono B_11.out.size))
      clear hb X_11 H_11 K_11 Y_11 B_11
      rw [sameB_refl l]
      go_wp2_with fail
      refine (same_any _ _ l' l' _ Y_12.out K_12.out).mono ?_
      rintro e w13 ⟨rfl, hb⟩
      have B_13 := Lib.hid (B_12.out.trans (hb.mono B_12.out.size))
      clear hb Y_12 K_12 B_12
      rw [sameB_refl l']
      go_wp2_with fail
      refine (known7_any _).mono ?_
      rintro e w14 ⟨rfl, hb⟩
      have B_14 := Lib.hid (B_13.out.trans (hb.mono B_13.out.size))
      clear hb B_13
      go_wp2
      go_ret
      exact ⟨rfl, B_14.out⟩

end Go.Proofs.Ytdlbjfgpfjcpaaa