/- quartolaw07.TransformForms returns true: the walk. -/
import Derived.Test.YtdlbjfgpfjcpaaaKnown7
import Derived.Test.YtdlbjfgpfjcpaaaNormal
namespace Go.Proofs.Ytdlbjfgpfjcpaaa
open Go.RowKit

set_option maxHeartbeats 8000000 in
set_option maxRecDepth 100000 in
theorem lawTransformForms_any (v : Value) (l : List Pc) (v' : Value) (l' : List Pc) (f : Bool) (w : World) (h : Sl pcE w v l) (hd : ∀ p, p ∈ l → p.wf) (hl : l.length * 32 ≤ 140737488355328) (h' : Sl pcE w v' l') (hd' : ∀ p, p ∈ l' → p.wf) (hl' : l'.length * 32 ≤ 140737488355328) :
    Calls Try.prog 20 #[v, v', .bool f] w fun e w' => e = .returned (.bool true) ∧ Below w.heap.size w w' := by
  have cA := Lib.hid fun w x h => own7_any x l w h hl
  have cB := Lib.hid fun w x h => own7_any x l' w h hl'
  have cN := fun w x h => normalize_any x l w h hd
  have cM := fun w x h => normalize_any x l' w h hd'
  have H := Lib.hid h; have K := Lib.hid h'
  by_cases h0 : errL l = 0
  · rw [h0] at cN
    by_cases h1 : errL l' = 0
    · rw [h1] at cM
      obtain ⟨q1, q2⟩ := tr_forms (f := f) h0 h1
      have wN := wf_of_err (norm_ok h0).2.1
      have wM := wf_of_err (norm_ok h1).2.1
      have c1 := fun w x y h k => transform_any x y l l' f w h k hd hd'
      have c2 := fun w x y h k => transform_any x y (normS l) (normS l') f w h k wN wM
      rw [q1, q2] at c2
      have cF := fun w x h => normal_any x (trR f l l') w h (wf_tr f l l')
      by_cases h2 : trE f l l' = 0
      · obtain ⟨r1, r2, r3, r4, r5, r6, r7⟩ := trR_ok h2
        have hn : normB (trR f l l') = true := by rw [normB, if_pos r2, r5]; exact sameB_refl _
        rw [hn] at cF
        rw [h2] at c1 c2
        generalize trR f l l' = R at *
        generalize normS l = N at *
        generalize normS l' = M at *
        have CN := Lib.hid cN; have CM := Lib.hid cM; have C1 := Lib.hid c1; have C2 := Lib.hid c2; have CF := Lib.hid cF
        clear cN cM c1 c2 cF q1 q2 wN wM r1 r2 r3 r4 r5 r6 r7 hn h0 h1 h2 h h' hd hd' hl hl'
        go_enter Try.func20, Try.ntmps20
        go_wp2_with fail
        refine (cA.out _ _ H.out).mono ?_
        rintro e w1 ⟨x0, rfl, ho, hb⟩
        have H_1 := Lib.hid (H.out.ext hb)
        have K_1 := Lib.hid (K.out.ext hb)
        have X_1 := Lib.hid (Sl.of_own ho)
        have B_1 := Lib.hid hb
        clear hb ho H K
        go_wp2_with fail
        refine (CN.out _ _ X_1.out).mono ?_
        rintro e w2 ⟨vn, rfl, ho, hb⟩
        have H_2 := Lib.hid (H_1.out.ext hb)
        have K_2 := Lib.hid (K_1.out.ext hb)
        have N_2 := Lib.hid (Sl.of_own ho)
        have B_2 := Lib.hid (B_1.out.trans (hb.mono B_1.out.size))
        clear hb ho X_1 H_1 K_1 B_1
        go_wp2_with fail
        refine (cB.out _ _ K_2.out).mono ?_
        rintro e w3 ⟨x2, rfl, ho, hb⟩
        have H_3 := Lib.hid (H_2.out.ext hb)
        have K_3 := Lib.hid (K_2.out.ext hb)
        have N_3 := Lib.hid (N_2.out.ext hb)
        have X_3 := Lib.hid (Sl.of_own ho)
        have B_3 := Lib.hid (B_2.out.trans (hb.mono B_2.out.size))
        clear hb ho H_2 K_2 N_2 B_2
        go_wp2_with fail
        refine (CM.out _ _ X_3.out).mono ?_
        rintro e w4 ⟨vm, rfl, ho, hb⟩
        have H_4 := Lib.hid (H_3.out.ext hb)
        have K_4 := Lib.hid (K_3.out.ext hb)
        have N_4 := Lib.hid (N_3.out.ext hb)
        have M_4 := Lib.hid (Sl.of_own ho)
        have B_4 := Lib.hid (B_3.out.trans (hb.mono B_3.out.size))
        clear hb ho X_3 H_3 K_3 N_3 B_3
        go_wp2_with fail
        refine (cA.out _ _ H_4.out).mono ?_
        rintro e w5 ⟨x4, rfl, ho, hb⟩
        have K_5 := Lib.hid (K_4.out.ext hb)
        have N_5 := Lib.hid (N_4.out.ext hb)
        have M_5 := Lib.hid (M_4.out.ext hb)
        have X_5 := Lib.hid (Sl.of_own ho)
        have B_5 := Lib.hid (B_4.out.trans (hb.mono B_4.out.size))
        clear hb ho H_4 K_4 N_4 M_4 B_4
        go_wp2_with fail
        refine (cB.out _ _ K_5.out).mono ?_
        rintro e w6 ⟨x5, rfl, ho, hb⟩
        have N_6 := Lib.hid (N_5.out.ext hb)
        have M_6 := Lib.hid (M_5.out.ext hb)
        have X_6 := Lib.hid (X_5.out.ext hb)
        have Y_6 := Lib.hid (Sl.of_own ho)
        have B_6 := Lib.hid (B_5.out.trans (hb.mono B_5.out.size))
        clear hb ho K_5 N_5 M_5 X_5 B_5
        go_wp2_with fail
        refine (C1.out _ _ _ X_6.out Y_6.out).mono ?_
        rintro e w7 ⟨vc, rfl, ho, hb⟩
        have N_7 := Lib.hid (N_6.out.ext hb)
        have M_7 := Lib.hid (M_6.out.ext hb)
        have C_7 := Lib.hid (Sl.of_own ho)
        have B_7 := Lib.hid (B_6.out.trans (hb.mono B_6.out.size))
        clear hb ho X_6 Y_6 N_6 M_6 B_6
        go_wp2_with fail
        refine (C2.out _ _ _ N_7.out M_7.out).mono ?_
        rintro e w8 ⟨ve, rfl, ho, hb⟩
        have C_8 := Lib.hid (C_7.out.ext hb)
        have D_8 := Lib.hid (Sl.of_own ho)
        have B_8 := Lib.hid (B_7.out.trans (hb.mono B_7.out.size))
        clear hb ho N_7 M_7 C_7 B_7
        go_wp2_with fail
        refine (same_any _ _ R R _ C_8.out D_8.out).mono ?_
        rintro e w9 ⟨rfl, hb⟩
        have C_9 := Lib.hid (C_8.out.ext hb)
        have B_9 := Lib.hid (B_8.out.trans (hb.mono B_8.out.size))
        clear hb D_8 C_8 B_8
        rw [sameB_refl R]
        go_wp2_with fail
        refine (CF.out _ _ C_9.out).mono ?_
        rintro e w10 ⟨rfl, hb⟩
        have B_10 := Lib.hid (B_9.out.trans (hb.mono B_9.out.size))
        clear hb C_9 B_9
        go_wp2_with fail
        refine (known7_any _).mono ?_
        rintro e w11 ⟨rfl, hb⟩
        have B_11 := Lib.hid (B_10.out.trans (hb.mono B_10.out.size))
        clear hb B_10
        go_wp2
        go_ret
        exact ⟨rfl, B_11.out⟩
      · have hne : (trE f l l' != 0) = true := by simpa using h2
        generalize trE f l l' = E at *
        generalize trR f l l' = R at *
        generalize normS l = N at *
        generalize normS l' = M at *
        have CN := Lib.hid cN; have CM := Lib.hid cM; have C1 := Lib.hid c1; have C2 := Lib.hid c2
        clear cN cM c1 c2 cF q1 q2 wN wM h0 h1 h2 h h' hd hd' hl hl'
        go_enter Try.func20, Try.ntmps20
        go_wp2_with fail
        refine (cA.out _ _ H.out).mono ?_
        rintro e w1 ⟨x0, rfl, ho, hb⟩
        have H_1 := Lib.hid (H.out.ext hb)
        have K_1 := Lib.hid (K.out.ext hb)
        have X_1 := Lib.hid (Sl.of_own ho)
        have B_1 := Lib.hid hb
        clear hb ho H K
        go_wp2_with fail
        refine (CN.out _ _ X_1.out).mono ?_
        rintro e w2 ⟨vn, rfl, ho, hb⟩
        have H_2 := Lib.hid (H_1.out.ext hb)
        have K_2 := Lib.hid (K_1.out.ext hb)
        have N_2 := Lib.hid (Sl.of_own ho)
        have B_2 := Lib.hid (B_1.out.trans (hb.mono B_1.out.size))
        clear hb ho X_1 H_1 K_1 B_1
        go_wp2_with fail
        refine (cB.out _ _ K_2.out).mono ?_
        rintro e w3 ⟨x2, rfl, ho, hb⟩
        have H_3 := Lib.hid (H_2.out.ext hb)
        have K_3 := Lib.hid (K_2.out.ext hb)
        have N_3 := Lib.hid (N_2.out.ext hb)
        have X_3 := Lib.hid (Sl.of_own ho)
        have B_3 := Lib.hid (B_2.out.trans (hb.mono B_2.out.size))
        clear hb ho H_2 K_2 N_2 B_2
        go_wp2_with fail
        refine (CM.out _ _ X_3.out).mono ?_
        rintro e w4 ⟨vm, rfl, ho, hb⟩
        have H_4 := Lib.hid (H_3.out.ext hb)
        have K_4 := Lib.hid (K_3.out.ext hb)
        have N_4 := Lib.hid (N_3.out.ext hb)
        have M_4 := Lib.hid (Sl.of_own ho)
        have B_4 := Lib.hid (B_3.out.trans (hb.mono B_3.out.size))
        clear hb ho X_3 H_3 K_3 N_3 B_3
        go_wp2_with fail
        refine (cA.out _ _ H_4.out).mono ?_
        rintro e w5 ⟨x4, rfl, ho, hb⟩
        have K_5 := Lib.hid (K_4.out.ext hb)
        have N_5 := Lib.hid (N_4.out.ext hb)
        have M_5 := Lib.hid (M_4.out.ext hb)
        have X_5 := Lib.hid (Sl.of_own ho)
        have B_5 := Lib.hid (B_4.out.trans (hb.mono B_4.out.size))
        clear hb ho H_4 K_4 N_4 M_4 B_4
        go_wp2_with fail
        refine (cB.out _ _ K_5.out).mono ?_
        rintro e w6 ⟨x5, rfl, ho, hb⟩
        have N_6 := Lib.hid (N_5.out.ext hb)
        have M_6 := Lib.hid (M_5.out.ext hb)
        have X_6 := Lib.hid (X_5.out.ext hb)
        have Y_6 := Lib.hid (Sl.of_own ho)
        have B_6 := Lib.hid (B_5.out.trans (hb.mono B_5.out.size))
        clear hb ho K_5 N_5 M_5 X_5 B_5
        go_wp2_with fail
        refine (C1.out _ _ _ X_6.out Y_6.out).mono ?_
        rintro e w7 ⟨vc, rfl, ho, hb⟩
        have N_7 := Lib.hid (N_6.out.ext hb)
        have M_7 := Lib.hid (M_6.out.ext hb)
        have C_7 := Lib.hid (Sl.of_own ho)
        have B_7 := Lib.hid (B_6.out.trans (hb.mono B_6.out.size))
        clear hb ho X_6 Y_6 N_6 M_6 B_6
        go_wp2_with fail
        refine (C2.out _ _ _ N_7.out M_7.out).mono ?_
        rintro e w8 ⟨ve, rfl, ho, hb⟩
        have C_8 := Lib.hid (C_7.out.ext hb)
        have D_8 := Lib.hid (Sl.of_own ho)
        have B_8 := Lib.hid (B_7.out.trans (hb.mono B_7.out.size))
        clear hb ho N_7 M_7 C_7 B_7
        go_wp2_with fail
        refine (same_any _ _ R R _ C_8.out D_8.out).mono ?_
        rintro e w9 ⟨rfl, hb⟩
        have C_9 := Lib.hid (C_8.out.ext hb)
        have B_9 := Lib.hid (B_8.out.trans (hb.mono B_8.out.size))
        clear hb D_8 C_8 B_8
        rw [sameB_refl R]
        go_wp2_with fail
        refine (known7_any _).mono ?_
        rintro e w10 ⟨rfl, hb⟩
        have B_10 := Lib.hid (B_9.out.trans (hb.mono B_9.out.size))
        clear hb C_9 B_9
        go_wp2
        go_ret
        exact ⟨rfl, B_10.out⟩
    · have hb : (errL l' != 0) = true := by simpa using h1
      generalize errL l' = E at *
      have CN := Lib.hid cN; have CM := Lib.hid cM
      clear cN cM h0 h1 h h' hd hd' hl hl'
      go_enter Try.func20, Try.ntmps20
      go_wp2_with fail
      refine (cA.out _ _ H.out).mono ?_
      rintro e w1 ⟨x0, rfl, ho, hb⟩
      have K_1 := Lib.hid (K.out.ext hb)
      have X_1 := Lib.hid (Sl.of_own ho)
      have B_1 := Lib.hid hb
      clear hb ho H K
      go_wp2_with fail
      refine (CN.out _ _ X_1.out).mono ?_
      rintro e w2 ⟨vn, rfl, ho, hb⟩
      have K_2 := Lib.hid (K_1.out.ext hb)
      have N_2 := Lib.hid (Sl.of_own ho)
      have B_2 := Lib.hid (B_1.out.trans (hb.mono B_1.out.size))
      clear hb ho X_1 K_1 B_1
      go_wp2_with fail
      refine (cB.out _ _ K_2.out).mono ?_
      rintro e w3 ⟨x2, rfl, ho, hb⟩
      have N_3 := Lib.hid (N_2.out.ext hb)
      have X_3 := Lib.hid (Sl.of_own ho)
      have B_3 := Lib.hid (B_2.out.trans (hb.mono B_2.out.size))
      clear hb ho K_2 N_2 B_2
      go_wp2_with fail
      refine (CM.out _ _ X_3.out).mono ?_
      rintro e w4 ⟨vm, rfl, ho, hb⟩
      have N_4 := Lib.hid (N_3.out.ext hb)
      have M_4 := Lib.hid (Sl.of_own ho)
      have B_4 := Lib.hid (B_3.out.trans (hb.mono B_3.out.size))
      clear hb ho X_3 N_3 B_3
      go_wp2_with fail
      refine (known7_any _).mono ?_
      rintro e w5 ⟨rfl, hb⟩
      have B_5 := Lib.hid (B_4.out.trans (hb.mono B_4.out.size))
      clear hb N_4 M_4 B_4
      go_wp2
      go_ret
      exact ⟨rfl, B_5.out⟩
  · have hb : (errL l != 0) = true := by simpa using h0
    generalize errL l = E at *
    generalize errL l' = E' at *
    have CN := Lib.hid cN; have CM := Lib.hid cM
    clear cN cM h0 h h' hd hd' hl hl'
    go_enter Try.func20, Try.ntmps20
    go_wp2_with fail
    refine (cA.out _ _ H.out).mono ?_
    rintro e w1 ⟨x0, rfl, ho, hb⟩
    have K_1 := Lib.hid (K.out.ext hb)
    have X_1 := Lib.hid (Sl.of_own ho)
    have B_1 := Lib.hid hb
    clear hb ho H K
    go_wp2_with fail
    refine (CN.out _ _ X_1.out).mono ?_
    rintro e w2 ⟨vn, rfl, ho, hb⟩
    have K_2 := Lib.hid (K_1.out.ext hb)
    have N_2 := Lib.hid (Sl.of_own ho)
    have B_2 := Lib.hid (B_1.out.trans (hb.mono B_1.out.size))
    clear hb ho X_1 K_1 B_1
    go_wp2_with fail
    refine (cB.out _ _ K_2.out).mono ?_
    rintro e w3 ⟨x2, rfl, ho, hb⟩
    have N_3 := Lib.hid (N_2.out.ext hb)
    have X_3 := Lib.hid (Sl.of_own ho)
    have B_3 := Lib.hid (B_2.out.trans (hb.mono B_2.out.size))
    clear hb ho K_2 N_2 B_2
    go_wp2_with fail
    refine (CM.out _ _ X_3.out).mono ?_
    rintro e w4 ⟨vm, rfl, ho, hb⟩
    have N_4 := Lib.hid (N_3.out.ext hb)
    have M_4 := Lib.hid (Sl.of_own ho)
    have B_4 := Lib.hid (B_3.out.trans (hb.mono B_3.out.size))
    clear hb ho X_3 N_3 B_3
    go_wp2_with fail
    refine (known7_any _).mono ?_
    rintro e w5 ⟨rfl, hb⟩
    have B_5 := Lib.hid (B_4.out.trans (hb.mono B_4.out.size))
    clear hb N_4 M_4 B_4
    go_wp2
    go_ret
    exact ⟨rfl, B_5.out⟩

end Go.Proofs.Ytdlbjfgpfjcpaaa