/- quartolaw04.ApplyBack returns true: the walk. -/
import Derived.Test.YtpbnciioeiohlaaNormal
import Derived.Test.YtpbnciioeiohlaaLawDoes
namespace Go.Proofs.Ytpbnciioeiohlaa
open Go.RowKit

theorem len32 {l : List Pc} (h : errL l = 0) : l.length * 32 ≤ 140737488355328 := by
  have := ((errL_iff l).1 h).1
  omega
theorem errL_fit {s : List UInt8} {l : List Pc} (h : errL l ≠ 0) : fitE s l = errL l := by simp [fitE, h]

set_option maxHeartbeats 4000000 in
set_option maxRecDepth 100000 in
theorem lawApplyBack_any (s : List UInt8) (v : Value) (l : List Pc) (w : World) (hs : s.length ≤ 140737488351232) (h : Sl pcE w v l) (hd : ∀ p, p ∈ l → p.wf) (hl : l.length * 32 ≤ 140737488355328) :
    Calls Try.prog 7 #[.string ⟨s.toArray⟩, v] w fun e w' => e = .returned (.bool true) ∧ Below w.heap.size w w' := by
  have hs' : s.length ≤ 9223372036854775807 := by omega
  have cOwn := Lib.hid fun w x h => own_any x l w h hl
  have cA := fun w x h => apply_any s x l w hs' h hd
  have cI := fun w x h => invert_any s x l w hs' h hd
  by_cases h0 : fitE s l = 0
  · obtain ⟨f1, f2, f3, f4, f5, f6, f7⟩ := back h0
    obtain ⟨h1, h2, h3⟩ := fit_ok h0
    have hT : (applyS s l).length ≤ 9223372036854775807 := by
      have e1 := (apply_eq h0).2
      have e2 := ((errL_iff l).1 h1).2.2.2
      omega
    have wV := wf_of_err f4
    have cOwnV := Lib.hid fun w x h => own_any x (inverseS s l) w h (len32 f4)
    have cB := fun w x h => apply_any (applyS s l) x (inverseS s l) w hT h wV
    have cW := fun w x h => invert_any (applyS s l) x (inverseS s l) w hT h wV
    have cN := fun w x h => normalize_any x l w h hd
    have cIn := fun w x h => inserted_any x l w h hd
    have cOut := fun w x h => removed_any s x l w hs' h hd
    have cAdd := fun w x h => inserted_any x (inverseS s l) w h wV
    have cGone := fun w x h => removed_any (applyS s l) x (inverseS s l) w hT h wV
    have cNo := fun w x h => normal_any x (inverseS s l) w h wV
    have hno : normB (inverseS s l) = true := by rw [normB, if_pos f4, f5]; exact sameB_refl _
    simp only [h0, f1, f2, f3, h1, f4, f6, f7, hno] at cA cI cB cW cN cIn cOut cAdd cGone cNo
    generalize normS l = N at *
    generalize inverseS s l = V at *
    generalize applyS s l = T at *
    generalize removedS s l = R at *
    generalize insertedS l = I at *
    have H := Lib.hid h
    have cA' := Lib.hid cA; have cI' := Lib.hid cI; have cB' := Lib.hid cB; have cW' := Lib.hid cW; have cN' := Lib.hid cN; have cIn' := Lib.hid cIn
    have cOut' := Lib.hid cOut; have cAdd' := Lib.hid cAdd; have cGone' := Lib.hid cGone; have cNo' := Lib.hid cNo
    clear cA cI cB cW cN cIn cOut cAdd cGone cNo h h0 f1 f2 f3 f4 f5 f6 f7 h1 h2 h3 hT wV hno hd hl hs hs'
    go_enter Try.func7, Try.ntmps7
    go_wp2_with fail
    refine (cOwn.out _ _ H.out).mono ?_
    rintro e w1 ⟨x, rfl, ho, hb⟩
    have H_1 := Lib.hid (H.out.ext hb)
    have X_1 := Lib.hid (Sl.of_own ho)
    have B_1 := Lib.hid hb
    clear hb ho H
    go_wp2_with fail
    refine (cA'.out _ _ X_1.out).mono ?_
    rintro e w2 ⟨rfl, hb⟩
    have H_2 := Lib.hid (H_1.out.ext hb)
    have B_2 := Lib.hid (B_1.out.trans (hb.mono B_1.out.size))
    clear hb X_1 H_1 B_1
    go_wp2_with fail
    refine (cOwn.out _ _ H_2.out).mono ?_
    rintro e w3 ⟨x, rfl, ho, hb⟩
    have H_3 := Lib.hid (H_2.out.ext hb)
    have X_3 := Lib.hid (Sl.of_own ho)
    have B_3 := Lib.hid (B_2.out.trans (hb.mono B_2.out.size))
    clear hb ho H_2 B_2
    go_wp2_with fail
    refine (cI'.out _ _ X_3.out).mono ?_
    rintro e w4 ⟨v2, rfl, ho, hb⟩
    have H_4 := Lib.hid (H_3.out.ext hb)
    have V_4 := Lib.hid (Sl.of_own ho)
    have B_4 := Lib.hid (B_3.out.trans (hb.mono B_3.out.size))
    clear hb ho X_3 H_3 B_3
    go_wp2_with fail
    refine (cOwnV.out _ _ V_4.out).mono ?_
    rintro e w5 ⟨x, rfl, ho, hb⟩
    have H_5 := Lib.hid (H_4.out.ext hb)
    have V_5 := Lib.hid (V_4.out.ext hb)
    have X_5 := Lib.hid (Sl.of_own ho)
    have B_5 := Lib.hid (B_4.out.trans (hb.mono B_4.out.size))
    clear hb ho H_4 V_4 B_4
    go_wp2_with fail
    refine (cB'.out _ _ X_5.out).mono ?_
    rintro e w6 ⟨rfl, hb⟩
    have H_6 := Lib.hid (H_5.out.ext hb)
    have V_6 := Lib.hid (V_5.out.ext hb)
    have B_6 := Lib.hid (B_5.out.trans (hb.mono B_5.out.size))
    clear hb X_5 H_5 V_5 B_5
    go_wp2_with fail
    refine (cOwnV.out _ _ V_6.out).mono ?_
    rintro e w7 ⟨x, rfl, ho, hb⟩
    have H_7 := Lib.hid (H_6.out.ext hb)
    have V_7 := Lib.hid (V_6.out.ext hb)
    have X_7 := Lib.hid (Sl.of_own ho)
    have B_7 := Lib.hid (B_6.out.trans (hb.mono B_6.out.size))
    clear hb ho H_6 V_6 B_6
    go_wp2_with fail
    refine (cW'.out _ _ X_7.out).mono ?_
    rintro e w8 ⟨v3, rfl, ho, hb⟩
    have H_8 := Lib.hid (H_7.out.ext hb)
    have V_8 := Lib.hid (V_7.out.ext hb)
    have Y_8 := Lib.hid (Sl.of_own ho)
    have B_8 := Lib.hid (B_7.out.trans (hb.mono B_7.out.size))
    clear hb ho X_7 H_7 V_7 B_7
    go_wp2_with fail
    refine (cOwn.out _ _ H_8.out).mono ?_
    rintro e w9 ⟨x, rfl, ho, hb⟩
    have H_9 := Lib.hid (H_8.out.ext hb)
    have V_9 := Lib.hid (V_8.out.ext hb)
    have Y_9 := Lib.hid (Y_8.out.ext hb)
    have X_9 := Lib.hid (Sl.of_own ho)
    have B_9 := Lib.hid (B_8.out.trans (hb.mono B_8.out.size))
    clear hb ho H_8 V_8 Y_8 B_8
    go_wp2_with fail
    refine (cN'.out _ _ X_9.out).mono ?_
    rintro e w10 ⟨v4, rfl, ho, hb⟩
    have H_10 := Lib.hid (H_9.out.ext hb)
    have V_10 := Lib.hid (V_9.out.ext hb)
    have Y_10 := Lib.hid (Y_9.out.ext hb)
    have Z_10 := Lib.hid (Sl.of_own ho)
    have B_10 := Lib.hid (B_9.out.trans (hb.mono B_9.out.size))
    clear hb ho X_9 H_9 V_9 Y_9 B_9
    go_wp2_with fail
    refine (cOwn.out _ _ H_10.out).mono ?_
    rintro e w11 ⟨x, rfl, ho, hb⟩
    have H_11 := Lib.hid (H_10.out.ext hb)
    have V_11 := Lib.hid (V_10.out.ext hb)
    have Y_11 := Lib.hid (Y_10.out.ext hb)
    have Z_11 := Lib.hid (Z_10.out.ext hb)
    have X_11 := Lib.hid (Sl.of_own ho)
    have B_11 := Lib.hid (B_10.out.trans (hb.mono B_10.out.size))
    clear hb ho H_10 V_10 Y_10 Z_10 B_10
    go_wp2_with fail
    refine (cIn'.out _ _ X_11.out).mono ?_
    rintro e w12 ⟨rfl, hb⟩
    have H_12 := Lib.hid (H_11.out.ext hb)
    have V_12 := Lib.hid (V_11.out.ext hb)
    have Y_12 := Lib.hid (Y_11.out.ext hb)
    have Z_12 := Lib.hid (Z_11.out.ext hb)
    have B_12 := Lib.hid (B_11.out.trans (hb.mono B_11.out.size))
    clear hb X_11 H_11 V_11 Y_11 Z_11 B_11
    go_wp2_with fail
    refine (cOwn.out _ _ H_12.out).mono ?_
    rintro e w13 ⟨x, rfl, ho, hb⟩
    have H_13 := Lib.hid (H_12.out.ext hb)
    have V_13 := Lib.hid (V_12.out.ext hb)
    have Y_13 := Lib.hid (Y_12.out.ext hb)
    have Z_13 := Lib.hid (Z_12.out.ext hb)
    have X_13 := Lib.hid (Sl.of_own ho)
    have B_13 := Lib.hid (B_12.out.trans (hb.mono B_12.out.size))
    clear hb ho H_12 V_12 Y_12 Z_12 B_12
    go_wp2_with fail
    refine (cOut'.out _ _ X_13.out).mono ?_
    rintro e w14 ⟨rfl, hb⟩
    have H_14 := Lib.hid (H_13.out.ext hb)
    have V_14 := Lib.hid (V_13.out.ext hb)
    have Y_14 := Lib.hid (Y_13.out.ext hb)
    have Z_14 := Lib.hid (Z_13.out.ext hb)
    have B_14 := Lib.hid (B_13.out.trans (hb.mono B_13.out.size))
    clear hb X_13 H_13 V_13 Y_13 Z_13 B_13
    go_wp2_with fail
    refine (cOwnV.out _ _ V_14.out).mono ?_
    rintro e w15 ⟨x, rfl, ho, hb⟩
    have H_15 := Lib.hid (H_14.out.ext hb)
    have V_15 := Lib.hid (V_14.out.ext hb)
    have Y_15 := Lib.hid (Y_14.out.ext hb)
    have Z_15 := Lib.hid (Z_14.out.ext hb)
    have X_15 := Lib.hid (Sl.of_own ho)
    have B_15 := Lib.hid (B_14.out.trans (hb.mono B_14.out.size))
    clear hb ho H_14 V_14 Y_14 Z_14 B_14
    go_wp2_with fail
    refine (cAdd'.out _ _ X_15.out).mono ?_
    rintro e w16 ⟨rfl, hb⟩
    have H_16 := Lib.hid (H_15.out.ext hb)
    have V_16 := Lib.hid (V_15.out.ext hb)
    have Y_16 := Lib.hid (Y_15.out.ext hb)
    have Z_16 := Lib.hid (Z_15.out.ext hb)
    have B_16 := Lib.hid (B_15.out.trans (hb.mono B_15.out.size))
    clear hb X_15 H_15 V_15 Y_15 Z_15 B_15
    go_wp2_with fail
    refine (cOwnV.out _ _ V_16.out).mono ?_
    rintro e w17 ⟨x, rfl, ho, hb⟩
    have H_17 := Lib.hid (H_16.out.ext hb)
    have V_17 := Lib.hid (V_16.out.ext hb)
    have Y_17 := Lib.hid (Y_16.out.ext hb)
    have Z_17 := Lib.hid (Z_16.out.ext hb)
    have X_17 := Lib.hid (Sl.of_own ho)
    have B_17 := Lib.hid (B_16.out.trans (hb.mono B_16.out.size))
    clear hb ho H_16 V_16 Y_16 Z_16 B_16
    go_wp2_with fail
    refine (cGone'.out _ _ X_17.out).mono ?_
    rintro e w18 ⟨rfl, hb⟩
    have H_18 := Lib.hid (H_17.out.ext hb)
    have V_18 := Lib.hid (V_17.out.ext hb)
    have Y_18 := Lib.hid (Y_17.out.ext hb)
    have Z_18 := Lib.hid (Z_17.out.ext hb)
    have B_18 := Lib.hid (B_17.out.trans (hb.mono B_17.out.size))
    clear hb X_17 H_17 V_17 Y_17 Z_17 B_17
    go_wp2_with fail
    refine (same_any v3 v4 N N _ Y_18.out Z_18.out).mono ?_
    rintro e w19 ⟨rfl, hb⟩
    have H_19 := Lib.hid (H_18.out.ext hb)
    have V_19 := Lib.hid (V_18.out.ext hb)
    have B_19 := Lib.hid (B_18.out.trans (hb.mono B_18.out.size))
    clear hb Y_18 Z_18 H_18 V_18 B_18
    rw [sameB_refl N]
    go_wp2_with fail
    refine (cNo'.out _ _ V_19.out).mono ?_
    rintro e w20 ⟨rfl, hb⟩
    have H_20 := Lib.hid (H_19.out.ext hb)
    have B_20 := Lib.hid (B_19.out.trans (hb.mono B_19.out.size))
    clear hb V_19 H_19 B_19
    go_wp2_with fail
    refine (known_any _).mono ?_
    rintro e w21 ⟨rfl, hb⟩
    have H_21 := Lib.hid (H_20.out.ext hb)
    have B_21 := Lib.hid (B_20.out.trans (hb.mono B_20.out.size))
    clear hb H_20 B_20
    go_wp2
    go_ret
    exact ⟨rfl, B_21.out⟩
  · obtain ⟨a1, a2⟩ := apply_none h0
    have hb : (fitE s l != 0) = true := by simpa using h0
    simp only [a1, a2] at cA cI
    generalize fitE s l = E at *
    have H := Lib.hid h
    have cA' := Lib.hid cA; have cI' := Lib.hid cI
    clear cA cI h h0 a1 a2 hd hl hs hs'
    go_enter Try.func7, Try.ntmps7
    go_wp2_with fail
    refine (cOwn.out _ _ H.out).mono ?_
    rintro e w1 ⟨x, rfl, ho, hb⟩
    have H_1 := Lib.hid (H.out.ext hb)
    have X_1 := Lib.hid (Sl.of_own ho)
    have B_1 := Lib.hid hb
    clear hb ho H
    go_wp2_with fail
    refine (cA'.out _ _ X_1.out).mono ?_
    rintro e w2 ⟨rfl, hb⟩
    have H_2 := Lib.hid (H_1.out.ext hb)
    have B_2 := Lib.hid (B_1.out.trans (hb.mono B_1.out.size))
    clear hb X_1 H_1 B_1
    go_wp2_with fail
    refine (cOwn.out _ _ H_2.out).mono ?_
    rintro e w3 ⟨x, rfl, ho, hb⟩
    have H_3 := Lib.hid (H_2.out.ext hb)
    have X_3 := Lib.hid (Sl.of_own ho)
    have B_3 := Lib.hid (B_2.out.trans (hb.mono B_2.out.size))
    clear hb ho H_2 B_2
    go_wp2_with fail
    refine (cI'.out _ _ X_3.out).mono ?_
    rintro e w4 ⟨v2, rfl, ho, hb⟩
    have V_4 := Lib.hid (Sl.of_own ho)
    have B_4 := Lib.hid (B_3.out.trans (hb.mono B_3.out.size))
    clear hb ho X_3 H_3 B_3
    obtain ⟨A2, c2, rfl, -, -, -⟩ := id V_4.out
    go_wp2_with fail
    refine (known_any _).mono ?_
    rintro e w5 ⟨rfl, hb⟩
    have V_5 := Lib.hid (V_4.out.ext hb)
    have B_5 := Lib.hid (B_4.out.trans (hb.mono B_4.out.size))
    clear hb V_4 B_4
    go_wp2
    go_ret
    exact ⟨rfl, B_5.out⟩

end Go.Proofs.Ytpbnciioeiohlaa
