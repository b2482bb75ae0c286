/- quartolaw06.ShiftOrders returns true: the walk. -/
import Derived.Test.YtpbnciioeiohlaaBoth6
namespace Go.Proofs.Ytpbnciioeiohlaa
open Go.RowKit

set_option maxHeartbeats 4000000 in
set_option maxRecDepth 100000 in
theorem lawShiftOrders_any (v : Value) (l : List Pc) (x y : Int) (w : World) (h : Sl pcE w v l) (hd : ∀ p, p ∈ l → p.wf) (hl : l.length * 32 ≤ 140737488355328) (_hx : -9223372036854775808 ≤ x) (_hx' : x ≤ 9223372036854775807) (_hy : -9223372036854775808 ≤ y) (_hy' : y ≤ 9223372036854775807) :
    Calls Try.prog 16 #[v, .int .i64 x, .int .i64 y] w fun e w' => e = .returned (.bool true) ∧ Below w.heap.size w w' := by
  have cOwn := Lib.hid fun w x h => own6_any x l w h hl
  have c1 := fun w z h => both_any z l x w h hd hl
  have c2 := fun w z h => both_any z l y w h hd hl
  have c3 := fun w z h => kept_any z l x w h hd
  have c4 := fun w z h => kept_any z l y w h hd
  have H := Lib.hid h
  by_cases h1 : bothOk l x = true
  · by_cases h2 : bothOk l y = true
    · by_cases hxy : x ≤ y
      · obtain ⟨k0, k1, k2, k3, k4⟩ := both_vals h1
        obtain ⟨m0, m1, m2, m3, m4⟩ := both_vals h2
        have hv := ((errL_iff l).1 k0).2.1
        have o1 := left_mono hv false hxy
        have o2 := right_mono hv false hxy
        have o3 := left_right hv false x
        have o4 := left_right hv false y
        simp only [ioL, Bool.false_eq_true, if_false] at o2 o3 o4
        rw [← k3, ← m3] at o1
        rw [← k4, ← m4] at o2
        rw [← k3, ← k4] at o3
        rw [← m3, ← m4] at o4
        have hk : x < y → keptE l x = 0 → keptE l y = 0 → ∀ a b, keptR l x = some a → keptR l y = some b → a < b := by
          intro hlt e1 e2 a b ha hb
          rw [(keptE_ok e1).2.2.2, keptL hv] at ha
          rw [(keptE_ok e2).2.2.2, keptL hv] at hb
          exact (KT.mono hv ha hb).1 hlt
        have hok : (x < y ∧ keptE l x = 0 ∧ keptE l y = 0 ∧ (keptR l x).isSome = true ∧ (keptR l y).isSome = true) → optV (keptR l x) < optV (keptR l y) := by
          rintro ⟨q1, q2, q3, q4, q5⟩
          obtain ⟨a, ha⟩ := Option.isSome_iff_exists.1 q4
          obtain ⟨b, hb⟩ := Option.isSome_iff_exists.1 q5
          rw [ha, hb]
          exact hk q1 q2 q3 a b ha hb
        simp only [h1] at c1
        simp only [h2] at c2
        simp only [keptV] at c3 c4
        generalize optV (keptR l x) = A1 at *
        generalize optV (keptR l y) = A2 at *
        generalize (keptR l x).isSome = S1 at *
        generalize (keptR l y).isSome = S2 at *
        generalize keptE l x = E1 at *
        generalize keptE l y = E2 at *
        generalize posV l x 0 = P1 at *
        generalize posV l x 1 = P2 at *
        generalize posV l y 0 = P3 at *
        generalize posV l y 1 = P4 at *
        have C1 := Lib.hid c1; have C2 := Lib.hid c2; have C3 := Lib.hid c3; have C4 := Lib.hid c4; have Hok := Lib.hid hok
        have hnle : ¬ y < x := by omega
        clear c1 c2 c3 c4 h hd hl hk hok h1 h2 k0 k1 k2 k3 k4 m0 m1 m2 m3 m4 hv
        by_cases hlt : x < y
        · by_cases f1 : E1 = 0
          · by_cases f2 : E2 = 0
            · subst f1 f2
              by_cases f3 : S1 = true
              · by_cases f4 : S2 = true
                · subst f3 f4
                  have hlt2 := Hok.out ⟨hlt, rfl, rfl, rfl, rfl⟩
                  have hnl : ¬ A2 ≤ A1 := by omega
                  clear Hok
                  go_enter Try.func16, Try.ntmps16
                  go_wp2_with fail
                  refine (C1.out _ _ H.out).mono ?_
                  rintro e w1 ⟨rfl, hb⟩
                  have H_1 := Lib.hid (H.out.ext hb)
                  have B_1 := Lib.hid hb
                  clear hb H
                  go_wp2_with fail
                  refine (C2.out _ _ H_1.out).mono ?_
                  rintro e w2 ⟨rfl, hb⟩
                  have H_2 := Lib.hid (H_1.out.ext hb)
                  have B_2 := Lib.hid (B_1.out.trans (hb.mono B_1.out.size))
                  clear hb H_1 B_1
                  go_wp2_with fail
                  refine (cOwn.out _ _ H_2.out).mono ?_
                  rintro e w3 ⟨x1, rfl, ho, hb⟩
                  have H_3 := Lib.hid (H_2.out.ext hb)
                  have X_3 := Lib.hid (Sl.of_own ho)
                  have B_3 := Lib.hid (B_2.out.trans (hb.mono B_2.out.size))
                  clear hb ho H_2 B_2
                  go_wp2_with fail
                  refine (C3.out _ _ X_3.out).mono ?_
                  rintro e w4 ⟨rfl, hb⟩
                  have H_4 := Lib.hid (H_3.out.ext hb)
                  have B_4 := Lib.hid (B_3.out.trans (hb.mono B_3.out.size))
                  clear hb X_3 H_3 B_3
                  go_wp2_with fail
                  refine (cOwn.out _ _ H_4.out).mono ?_
                  rintro e w5 ⟨x2, rfl, ho, hb⟩
                  have X_5 := Lib.hid (Sl.of_own ho)
                  have B_5 := Lib.hid (B_4.out.trans (hb.mono B_4.out.size))
                  clear hb ho H_4 B_4
                  go_wp2_with fail
                  refine (C4.out _ _ X_5.out).mono ?_
                  rintro e w6 ⟨rfl, hb⟩
                  have B_6 := Lib.hid (B_5.out.trans (hb.mono B_5.out.size))
                  clear hb X_5 B_5
                  go_wp2_with fail
                  refine (known6_any _).mono ?_
                  rintro e w7 ⟨rfl, hb⟩
                  have B_7 := Lib.hid (B_6.out.trans (hb.mono B_6.out.size))
                  clear hb B_6
                  go_wp2
                  go_ret
                  exact ⟨rfl, B_7.out⟩
                · have f4' : S2 = false := by simpa using f4
                  subst f3 f4'
                  clear f4 Hok
                  go_enter Try.func16, Try.ntmps16
                  go_wp2_with fail
                  refine (C1.out _ _ H.out).mono ?_
                  rintro e w1 ⟨rfl, hb⟩
                  have H_1 := Lib.hid (H.out.ext hb)
                  have B_1 := Lib.hid hb
                  clear hb H
                  go_wp2_with fail
                  refine (C2.out _ _ H_1.out).mono ?_
                  rintro e w2 ⟨rfl, hb⟩
                  have H_2 := Lib.hid (H_1.out.ext hb)
                  have B_2 := Lib.hid (B_1.out.trans (hb.mono B_1.out.size))
                  clear hb H_1 B_1
                  go_wp2_with fail
                  refine (cOwn.out _ _ H_2.out).mono ?_
                  rintro e w3 ⟨x1, rfl, ho, hb⟩
                  have H_3 := Lib.hid (H_2.out.ext hb)
                  have X_3 := Lib.hid (Sl.of_own ho)
                  have B_3 := Lib.hid (B_2.out.trans (hb.mono B_2.out.size))
                  clear hb ho H_2 B_2
                  go_wp2_with fail
                  refine (C3.out _ _ X_3.out).mono ?_
                  rintro e w4 ⟨rfl, hb⟩
                  have H_4 := Lib.hid (H_3.out.ext hb)
                  have B_4 := Lib.hid (B_3.out.trans (hb.mono B_3.out.size))
                  clear hb X_3 H_3 B_3
                  go_wp2_with fail
                  refine (cOwn.out _ _ H_4.out).mono ?_
                  rintro e w5 ⟨x2, rfl, ho, hb⟩
                  have X_5 := Lib.hid (Sl.of_own ho)
                  have B_5 := Lib.hid (B_4.out.trans (hb.mono B_4.out.size))
                  clear hb ho H_4 B_4
                  go_wp2_with fail
                  refine (C4.out _ _ X_5.out).mono ?_
                  rintro e w6 ⟨rfl, hb⟩
                  have B_6 := Lib.hid (B_5.out.trans (hb.mono B_5.out.size))
                  clear hb X_5 B_5
                  go_wp2_with fail
                  refine (known6_any _).mono ?_
                  rintro e w7 ⟨rfl, hb⟩
                  have B_7 := Lib.hid (B_6.out.trans (hb.mono B_6.out.size))
                  clear hb B_6
                  go_wp2
                  go_ret
                  exact ⟨rfl, B_7.out⟩
              · have f3' : S1 = false := by simpa using f3
                subst f3'
                clear f3 Hok
                go_enter Try.func16, Try.ntmps16
                go_wp2_with fail
                refine (C1.out _ _ H.out).mono ?_
                rintro e w1 ⟨rfl, hb⟩
                have H_1 := Lib.hid (H.out.ext hb)
                have B_1 := Lib.hid hb
                clear hb H
                go_wp2_with fail
                refine (C2.out _ _ H_1.out).mono ?_
                rintro e w2 ⟨rfl, hb⟩
                have H_2 := Lib.hid (H_1.out.ext hb)
                have B_2 := Lib.hid (B_1.out.trans (hb.mono B_1.out.size))
                clear hb H_1 B_1
                go_wp2_with fail
                refine (cOwn.out _ _ H_2.out).mono ?_
                rintro e w3 ⟨x1, rfl, ho, hb⟩
                have H_3 := Lib.hid (H_2.out.ext hb)
                have X_3 := Lib.hid (Sl.of_own ho)
                have B_3 := Lib.hid (B_2.out.trans (hb.mono B_2.out.size))
                clear hb ho H_2 B_2
                go_wp2_with fail
                refine (C3.out _ _ X_3.out).mono ?_
                rintro e w4 ⟨rfl, hb⟩
                have H_4 := Lib.hid (H_3.out.ext hb)
                have B_4 := Lib.hid (B_3.out.trans (hb.mono B_3.out.size))
                clear hb X_3 H_3 B_3
                go_wp2_with fail
                refine (cOwn.out _ _ H_4.out).mono ?_
                rintro e w5 ⟨x2, rfl, ho, hb⟩
                have X_5 := Lib.hid (Sl.of_own ho)
                have B_5 := Lib.hid (B_4.out.trans (hb.mono B_4.out.size))
                clear hb ho H_4 B_4
                go_wp2_with fail
                refine (C4.out _ _ X_5.out).mono ?_
                rintro e w6 ⟨rfl, hb⟩
                have B_6 := Lib.hid (B_5.out.trans (hb.mono B_5.out.size))
                clear hb X_5 B_5
                go_wp2_with fail
                refine (known6_any _).mono ?_
                rintro e w7 ⟨rfl, hb⟩
                have B_7 := Lib.hid (B_6.out.trans (hb.mono B_6.out.size))
                clear hb B_6
                go_wp2
                go_ret
                exact ⟨rfl, B_7.out⟩
            · have f2' : (E2 == 0) = false := by simpa using f2
              subst f1
              clear f2 Hok
              go_enter Try.func16, Try.ntmps16
              go_wp2_with fail
              refine (C1.out _ _ H.out).mono ?_
              rintro e w1 ⟨rfl, hb⟩
              have H_1 := Lib.hid (H.out.ext hb)
              have B_1 := Lib.hid hb
              clear hb H
              go_wp2_with fail
              refine (C2.out _ _ H_1.out).mono ?_
              rintro e w2 ⟨rfl, hb⟩
              have H_2 := Lib.hid (H_1.out.ext hb)
              have B_2 := Lib.hid (B_1.out.trans (hb.mono B_1.out.size))
              clear hb H_1 B_1
              go_wp2_with fail
              refine (cOwn.out _ _ H_2.out).mono ?_
              rintro e w3 ⟨x1, rfl, ho, hb⟩
              have H_3 := Lib.hid (H_2.out.ext hb)
              have X_3 := Lib.hid (Sl.of_own ho)
              have B_3 := Lib.hid (B_2.out.trans (hb.mono B_2.out.size))
              clear hb ho H_2 B_2
              go_wp2_with fail
              refine (C3.out _ _ X_3.out).mono ?_
              rintro e w4 ⟨rfl, hb⟩
              have H_4 := Lib.hid (H_3.out.ext hb)
              have B_4 := Lib.hid (B_3.out.trans (hb.mono B_3.out.size))
              clear hb X_3 H_3 B_3
              go_wp2_with fail
              refine (cOwn.out _ _ H_4.out).mono ?_
              rintro e w5 ⟨x2, rfl, ho, hb⟩
              have X_5 := Lib.hid (Sl.of_own ho)
              have B_5 := Lib.hid (B_4.out.trans (hb.mono B_4.out.size))
              clear hb ho H_4 B_4
              go_wp2_with fail
              refine (C4.out _ _ X_5.out).mono ?_
              rintro e w6 ⟨rfl, hb⟩
              have B_6 := Lib.hid (B_5.out.trans (hb.mono B_5.out.size))
              clear hb X_5 B_5
              go_wp2_with fail
              refine (known6_any _).mono ?_
              rintro e w7 ⟨rfl, hb⟩
              have B_7 := Lib.hid (B_6.out.trans (hb.mono B_6.out.size))
              clear hb B_6
              go_wp2
              go_ret
              exact ⟨rfl, B_7.out⟩
          · have f1' : (E1 == 0) = false := by simpa using f1
            clear f1 Hok
            go_enter Try.func16, Try.ntmps16
            go_wp2_with fail
            refine (C1.out _ _ H.out).mono ?_
            rintro e w1 ⟨rfl, hb⟩
            have H_1 := Lib.hid (H.out.ext hb)
            have B_1 := Lib.hid hb
            clear hb H
            go_wp2_with fail
            refine (C2.out _ _ H_1.out).mono ?_
            rintro e w2 ⟨rfl, hb⟩
            have H_2 := Lib.hid (H_1.out.ext hb)
            have B_2 := Lib.hid (B_1.out.trans (hb.mono B_1.out.size))
            clear hb H_1 B_1
            go_wp2_with fail
            refine (cOwn.out _ _ H_2.out).mono ?_
            rintro e w3 ⟨x1, rfl, ho, hb⟩
            have H_3 := Lib.hid (H_2.out.ext hb)
            have X_3 := Lib.hid (Sl.of_own ho)
            have B_3 := Lib.hid (B_2.out.trans (hb.mono B_2.out.size))
            clear hb ho H_2 B_2
            go_wp2_with fail
            refine (C3.out _ _ X_3.out).mono ?_
            rintro e w4 ⟨rfl, hb⟩
            have H_4 := Lib.hid (H_3.out.ext hb)
            have B_4 := Lib.hid (B_3.out.trans (hb.mono B_3.out.size))
            clear hb X_3 H_3 B_3
            go_wp2_with fail
            refine (cOwn.out _ _ H_4.out).mono ?_
            rintro e w5 ⟨x2, rfl, ho, hb⟩
            have X_5 := Lib.hid (Sl.of_own ho)
            have B_5 := Lib.hid (B_4.out.trans (hb.mono B_4.out.size))
            clear hb ho H_4 B_4
            go_wp2_with fail
            refine (C4.out _ _ X_5.out).mono ?_
            rintro e w6 ⟨rfl, hb⟩
            have B_6 := Lib.hid (B_5.out.trans (hb.mono B_5.out.size))
            clear hb X_5 B_5
            go_wp2_with fail
            refine (known6_any _).mono ?_
            rintro e w7 ⟨rfl, hb⟩
            have B_7 := Lib.hid (B_6.out.trans (hb.mono B_6.out.size))
            clear hb B_6
            go_wp2
            go_ret
            exact ⟨rfl, B_7.out⟩
        · clear Hok
          go_enter Try.func16, Try.ntmps16
          go_wp2_with fail
          refine (C1.out _ _ H.out).mono ?_
          rintro e w1 ⟨rfl, hb⟩
          have H_1 := Lib.hid (H.out.ext hb)
          have B_1 := Lib.hid hb
          clear hb H
          go_wp2_with fail
          refine (C2.out _ _ H_1.out).mono ?_
          rintro e w2 ⟨rfl, hb⟩
          have H_2 := Lib.hid (H_1.out.ext hb)
          have B_2 := Lib.hid (B_1.out.trans (hb.mono B_1.out.size))
          clear hb H_1 B_1
          go_wp2_with fail
          refine (cOwn.out _ _ H_2.out).mono ?_
          rintro e w3 ⟨x1, rfl, ho, hb⟩
          have H_3 := Lib.hid (H_2.out.ext hb)
          have X_3 := Lib.hid (Sl.of_own ho)
          have B_3 := Lib.hid (B_2.out.trans (hb.mono B_2.out.size))
          clear hb ho H_2 B_2
          go_wp2_with fail
          refine (C3.out _ _ X_3.out).mono ?_
          rintro e w4 ⟨rfl, hb⟩
          have H_4 := Lib.hid (H_3.out.ext hb)
          have B_4 := Lib.hid (B_3.out.trans (hb.mono B_3.out.size))
          clear hb X_3 H_3 B_3
          go_wp2_with fail
          refine (cOwn.out _ _ H_4.out).mono ?_
          rintro e w5 ⟨x2, rfl, ho, hb⟩
          have X_5 := Lib.hid (Sl.of_own ho)
          have B_5 := Lib.hid (B_4.out.trans (hb.mono B_4.out.size))
          clear hb ho H_4 B_4
          go_wp2_with fail
          refine (C4.out _ _ X_5.out).mono ?_
          rintro e w6 ⟨rfl, hb⟩
          have B_6 := Lib.hid (B_5.out.trans (hb.mono B_5.out.size))
          clear hb X_5 B_5
          go_wp2_with fail
          refine (known6_any _).mono ?_
          rintro e w7 ⟨rfl, hb⟩
          have B_7 := Lib.hid (B_6.out.trans (hb.mono B_6.out.size))
          clear hb B_6
          go_wp2
          go_ret
          exact ⟨rfl, B_7.out⟩
      · have hlt : y < x := by omega
        simp only [h1] at c1
        simp only [h2] at c2
        generalize posV l x 0 = P1 at *
        generalize posV l x 1 = P2 at *
        generalize posV l y 0 = P3 at *
        generalize posV l y 1 = P4 at *
        have C1 := Lib.hid c1; have C2 := Lib.hid c2
        clear c1 c2 c3 c4 h hd hl h1 h2 hxy
        go_enter Try.func16, Try.ntmps16
        go_wp2_with fail
        refine (C1.out _ _ H.out).mono ?_
        rintro e w1 ⟨rfl, hb⟩
        have H_1 := Lib.hid (H.out.ext hb)
        have B_1 := Lib.hid hb
        clear hb H
        go_wp2_with fail
        refine (C2.out _ _ H_1.out).mono ?_
        rintro e w2 ⟨rfl, hb⟩
        have B_2 := Lib.hid (B_1.out.trans (hb.mono B_1.out.size))
        clear hb H_1 B_1
        go_wp2_with fail
        refine (known6_any _).mono ?_
        rintro e w3 ⟨rfl, hb⟩
        have B_3 := Lib.hid (B_2.out.trans (hb.mono B_2.out.size))
        clear hb B_2
        go_wp2
        go_ret
        exact ⟨rfl, B_3.out⟩
    · have h2' : bothOk l y = false := by simpa using h2
      simp only [h1] at c1
      simp only [h2'] at c2
      generalize posV l x 0 = P1 at *
      generalize posV l x 1 = P2 at *
      generalize posV l y 0 = P3 at *
      generalize posV l y 1 = P4 at *
      have C1 := Lib.hid c1; have C2 := Lib.hid c2
      clear c1 c2 c3 c4 h hd hl h1 h2 h2'
      go_enter Try.func16, Try.ntmps16
      go_wp2_with fail
      refine (C1.out _ _ H.out).mono ?_
      rintro e w1 ⟨rfl, hb⟩
      have H_1 := Lib.hid (H.out.ext hb)
      have B_1 := Lib.hid hb
      clear hb H
      go_wp2_with fail
      refine (C2.out _ _ H_1.out).mono ?_
      rintro e w2 ⟨rfl, hb⟩
      have B_2 := Lib.hid (B_1.out.trans (hb.mono B_1.out.size))
      clear hb H_1 B_1
      go_wp2_with fail
      refine (known6_any _).mono ?_
      rintro e w3 ⟨rfl, hb⟩
      have B_3 := Lib.hid (B_2.out.trans (hb.mono B_2.out.size))
      clear hb B_2
      go_wp2
      go_ret
      exact ⟨rfl, B_3.out⟩
  · have h1' : bothOk l x = false := by simpa using h1
    simp only [h1'] at c1
    generalize bothOk l y = B2 at *
    generalize posV l x 0 = P1 at *
    generalize posV l x 1 = P2 at *
    generalize posV l y 0 = P3 at *
    generalize posV l y 1 = P4 at *
    have C1 := Lib.hid c1; have C2 := Lib.hid c2
    clear c1 c2 c3 c4 h hd hl h1 h1'
    go_enter Try.func16, Try.ntmps16
    go_wp2_with fail
    refine (C1.out _ _ H.out).mono ?_
    rintro e w1 ⟨rfl, hb⟩
    have H_1 := Lib.hid (H.out.ext hb)
    have B_1 := Lib.hid hb
    clear hb H
    go_wp2_with fail
    refine (C2.out _ _ H_1.out).mono ?_
    rintro e w2 ⟨rfl, hb⟩
    have B_2 := Lib.hid (B_1.out.trans (hb.mono B_1.out.size))
    clear hb H_1 B_1
    go_wp2_with fail
    refine (known6_any _).mono ?_
    rintro e w3 ⟨rfl, hb⟩
    have B_3 := Lib.hid (B_2.out.trans (hb.mono B_2.out.size))
    clear hb B_2
    go_wp2
    go_ret
    exact ⟨rfl, B_3.out⟩

end Go.Proofs.Ytpbnciioeiohlaa
