/- quartolaw04.ApplyTells returns true: the walk. -/
import Derived.Test.YtpbnciioeiohlaaFresh
namespace Go.Proofs.Ytpbnciioeiohlaa
open Go.RowKit

theorem lensV_of {l : List Pc} (h : errL l = 0) : lensV l = .tuple #[.int .i64 (inL l), .int .i64 (outL l), .int .i64 0] := by
  unfold lensV
  rw [lens_of_err h]

set_option maxHeartbeats 4000000 in
set_option maxRecDepth 100000 in
theorem lawApplyTells_any (v : Value) (l : List Pc) (u : Value) (m : List Pc) (w : World) (h : Sl pcE w v l) (hd : ∀ p, p ∈ l → p.wf) (hl : l.length * 32 ≤ 140737488355328) (h' : Sl pcE w u m) (hd' : ∀ p, p ∈ m → p.wf) (hl' : m.length * 32 ≤ 140737488355328) :
    Calls Try.prog 10 #[v, u] w fun e w' => e = .returned (.bool true) ∧ Below w.heap.size w w' := by
  have cOwn := Lib.hid fun w x h => own_any x l w h hl
  have cOwnM := Lib.hid fun w x h => own_any x m w h hl'
  have cE := fun w x y h k => equivalent_any x y l m w h k hd hd'
  have H := Lib.hid h; have K := Lib.hid h'
  by_cases h0 : equivE l m = 0
  · have hl0 : errL l = 0 := by
      unfold equivE at h0
      split at h0
      · assumption
      · assumption
    have hm0 : errL m = 0 := by
      unfold equivE at h0
      rw [if_pos hl0] at h0
      exact h0
    obtain ⟨e1, e2, e3, e4⟩ := (errL_iff l).1 hl0
    obtain ⟨f1, f2, f3, f4⟩ := (errL_iff m).1 hm0
    have e5 := Val.inL e2
    have f5 := Val.inL f2
    have hbl := insS_bd (l := l) (d := 1048576) (fun p hp => ((formPre_of_lens hl0).2 p hp).2.2)
    have hbm := insS_bd (l := m) (d := 1048576) (fun p hp => ((formPre_of_lens hm0).2 p hp).2.2)
    have hX : insertedS l = insS l := by rw [insertedS, if_pos hl0]
    have hY : insertedS m = insS m := by rw [insertedS, if_pos hm0]
    have cL := fun w x h => lengths_any x l w h hd
    have cM := fun w x h => lengths_any x m w h hd'
    have cX := fun w x h => inserted_any x l w h hd
    have cY := fun w x h => inserted_any x m w h hd'
    rw [lensV_of hl0] at cL
    rw [lensV_of hm0] at cM
    simp only [h0] at cE
    simp only [hl0, hX] at cX
    simp only [hm0, hY] at cY
    have cF := fun w => fresh_any (inL l) (insS l) (insS m) w e5 (by omega) (by omega) (by omega)
    have hB : equivB l m = true ↔ formS l = formS m := by
      rw [equivB, if_pos h0, sameB_iff]
    by_cases hnm : inL l = inL m
    · have cA := fun S hS w x h => apply_any S x l w hS h hd
      have cB := fun S hS w x h => apply_any S x m w hS h hd'
      have hT : ∀ S : List UInt8, ((S.length : Int) == inL l) = true → S.Nodup → (∀ c ∈ S, c ∉ insS l ++ insS m) → fitE S l = 0 ∧ fitE S m = 0 ∧ (equivB l m = true ↔ applyS S l = applyS S m) := by
        intro S h1 h2 h3
        have h4 : (S.length : Int) = inL l := by simpa using h1
        have g1 := fit_of (s := S) hl0 h4.symm
        have g2 := fit_of (s := S) hm0 (by omega)
        refine ⟨g1, g2, ?_⟩
        rw [hB, tells g1 g2 h2 (fun c hc hs => h3 c hs (List.mem_append_left _ hc)) (fun c hc hs => h3 c hs (List.mem_append_right _ hc))]
      have HT := Lib.hid hT
      rw [← hnm] at cM
      generalize insS l = X at *
      generalize insS m = Y at *
      generalize hN : inL l = n at *
      generalize equivB l m = Q at *
      have cE' := Lib.hid cE; have cL' := Lib.hid cL; have cM' := Lib.hid cM; have cX' := Lib.hid cX; have cY' := Lib.hid cY; have cF' := Lib.hid cF; have cA' := Lib.hid cA; have cB' := Lib.hid cB
      clear cE cL cM cX cY cF cA cB hT hB h0 hl0 hm0 e1 e2 e3 e4 f1 f2 f3 f4 hbl hbm hX hY hnm hN h h' hd hd' hl hl' f5
      go_enter Try.func10, Try.ntmps10
      go_wp2_with fail
      refine (cOwn.out _ _ H.out).mono ?_
      rintro e w1 ⟨x, rfl, ho, hb⟩
      have H_1 := Lib.hid (H.out.ext hb)
      have K_1 := Lib.hid (K.out.ext hb)
      have X_1 := Lib.hid (Sl.of_own ho)
      have B_1 := Lib.hid hb
      clear hb ho H K
      go_wp2_with fail
      refine (cOwnM.out _ _ K_1.out).mono ?_
      rintro e w2 ⟨y, rfl, ho, hb⟩
      have H_2 := Lib.hid (H_1.out.ext hb)
      have K_2 := Lib.hid (K_1.out.ext hb)
      have X_2 := Lib.hid (X_1.out.ext hb)
      have Y_2 := Lib.hid (Sl.of_own ho)
      have B_2 := Lib.hid (B_1.out.trans (hb.mono B_1.out.size))
      clear hb ho H_1 K_1 X_1 B_1
      go_wp2_with fail
      refine (cE'.out _ _ _ X_2.out Y_2.out).mono ?_
      rintro e w3 ⟨rfl, hb⟩
      have H_3 := Lib.hid (H_2.out.ext hb)
      have K_3 := Lib.hid (K_2.out.ext hb)
      have B_3 := Lib.hid (B_2.out.trans (hb.mono B_2.out.size))
      clear hb X_2 Y_2 H_2 K_2 B_2
      go_wp2_with fail
      refine (cOwn.out _ _ H_3.out).mono ?_
      rintro e w4 ⟨x, rfl, ho, hb⟩
      have H_4 := Lib.hid (H_3.out.ext hb)
      have K_4 := Lib.hid (K_3.out.ext hb)
      have X_4 := Lib.hid (Sl.of_own ho)
      have B_4 := Lib.hid (B_3.out.trans (hb.mono B_3.out.size))
      clear hb ho H_3 K_3 B_3
      go_wp2_with fail
      refine (cL'.out _ _ X_4.out).mono ?_
      rintro e w5 ⟨rfl, hb⟩
      have H_5 := Lib.hid (H_4.out.ext hb)
      have K_5 := Lib.hid (K_4.out.ext hb)
      have B_5 := Lib.hid (B_4.out.trans (hb.mono B_4.out.size))
      clear hb X_4 H_4 K_4 B_4
      go_wp2_with fail
      refine (cOwnM.out _ _ K_5.out).mono ?_
      rintro e w6 ⟨x, rfl, ho, hb⟩
      have H_6 := Lib.hid (H_5.out.ext hb)
      have K_6 := Lib.hid (K_5.out.ext hb)
      have X_6 := Lib.hid (Sl.of_own ho)
      have B_6 := Lib.hid (B_5.out.trans (hb.mono B_5.out.size))
      clear hb ho H_5 K_5 B_5
      go_wp2_with fail
      refine (cM'.out _ _ X_6.out).mono ?_
      rintro e w7 ⟨rfl, hb⟩
      have H_7 := Lib.hid (H_6.out.ext hb)
      have K_7 := Lib.hid (K_6.out.ext hb)
      have B_7 := Lib.hid (B_6.out.trans (hb.mono B_6.out.size))
      clear hb X_6 H_6 K_6 B_6
      go_wp2_with fail
      refine (cOwn.out _ _ H_7.out).mono ?_
      rintro e w8 ⟨x, rfl, ho, hb⟩
      have H_8 := Lib.hid (H_7.out.ext hb)
      have K_8 := Lib.hid (K_7.out.ext hb)
      have X_8 := Lib.hid (Sl.of_own ho)
      have B_8 := Lib.hid (B_7.out.trans (hb.mono B_7.out.size))
      clear hb ho H_7 K_7 B_7
      go_wp2_with fail
      refine (cX'.out _ _ X_8.out).mono ?_
      rintro e w9 ⟨rfl, hb⟩
      have H_9 := Lib.hid (H_8.out.ext hb)
      have K_9 := Lib.hid (K_8.out.ext hb)
      have B_9 := Lib.hid (B_8.out.trans (hb.mono B_8.out.size))
      clear hb X_8 H_8 K_8 B_8
      go_wp2_with fail
      refine (cOwnM.out _ _ K_9.out).mono ?_
      rintro e w10 ⟨x, rfl, ho, hb⟩
      have H_10 := Lib.hid (H_9.out.ext hb)
      have K_10 := Lib.hid (K_9.out.ext hb)
      have X_10 := Lib.hid (Sl.of_own ho)
      have B_10 := Lib.hid (B_9.out.trans (hb.mono B_9.out.size))
      clear hb ho H_9 K_9 B_9
      go_wp2_with fail
      refine (cY'.out _ _ X_10.out).mono ?_
      rintro e w11 ⟨rfl, hb⟩
      have H_11 := Lib.hid (H_10.out.ext hb)
      have K_11 := Lib.hid (K_10.out.ext hb)
      have B_11 := Lib.hid (B_10.out.trans (hb.mono B_10.out.size))
      clear hb X_10 H_10 K_10 B_10
      go_wp2_with fail
      refine (cF'.out _).mono ?_
      rintro e w12 ⟨S, rfl, s1, s2, s3, hb⟩
      have H_12 := Lib.hid (H_11.out.ext hb)
      have K_12 := Lib.hid (K_11.out.ext hb)
      have B_12 := Lib.hid (B_11.out.trans (hb.mono B_11.out.size))
      clear hb H_11 K_11 B_11
      have S1 := Lib.hid s1; have S2 := Lib.hid s2; clear s1 s2
      by_cases hen : ((S.length : Int) == n) = true
      · obtain ⟨g1, g2, g3⟩ := HT.out S hen S1.out S2.out
        have cA1 := cA'.out S (by omega)
        have cB1 := cB'.out S (by omega)
        simp only [g1] at cA1
        simp only [g2] at cB1
        have CA1 := Lib.hid cA1; have CB1 := Lib.hid cB1
        clear cA1 cB1 g1 g2 S1 S2 s3 HT
        by_cases hq : Q = true
        · have hq2 := g3.1 hq
          rw [hq2] at CA1
          have HQ := Lib.hid hq
          clear g3 hq2
          generalize applyS S m = T at *
          go_wp2_with fail
          refine (cOwn.out _ _ H_12.out).mono ?_
          rintro e w13 ⟨x, rfl, ho, hb⟩
          have K_13 := Lib.hid (K_12.out.ext hb)
          have X_13 := Lib.hid (Sl.of_own ho)
          have B_13 := Lib.hid (B_12.out.trans (hb.mono B_12.out.size))
          clear hb ho H_12 K_12 B_12
          go_wp2_with fail
          refine (CA1.out _ _ X_13.out).mono ?_
          rintro e w14 ⟨rfl, hb⟩
          have K_14 := Lib.hid (K_13.out.ext hb)
          have B_14 := Lib.hid (B_13.out.trans (hb.mono B_13.out.size))
          clear hb X_13 K_13 B_13
          go_wp2_with fail
          refine (cOwnM.out _ _ K_14.out).mono ?_
          rintro e w15 ⟨x, rfl, ho, hb⟩
          have X_15 := Lib.hid (Sl.of_own ho)
          have B_15 := Lib.hid (B_14.out.trans (hb.mono B_14.out.size))
          clear hb ho K_14 B_14
          go_wp2_with fail
          refine (CB1.out _ _ X_15.out).mono ?_
          rintro e w16 ⟨rfl, hb⟩
          have B_16 := Lib.hid (B_15.out.trans (hb.mono B_15.out.size))
          clear hb X_15 B_15
          subst hq
          go_wp2_with fail
          refine (known_any _).mono ?_
          rintro e w17 ⟨rfl, hb⟩
          have B_17 := Lib.hid (B_16.out.trans (hb.mono B_16.out.size))
          clear hb B_16
          go_wp2
          go_ret
          exact ⟨rfl, B_17.out⟩
        · have hq1 : Q = false := by simpa using hq
          have hne : (applyS S l == applyS S m) = false := by simpa using fun e => hq (g3.2 e)
          clear g3 hq
          generalize applyS S m = T at *
          generalize applyS S l = U at *
          subst hq1
          go_wp2_with fail
          refine (cOwn.out _ _ H_12.out).mono ?_
          rintro e w13 ⟨x, rfl, ho, hb⟩
          have K_13 := Lib.hid (K_12.out.ext hb)
          have X_13 := Lib.hid (Sl.of_own ho)
          have B_13 := Lib.hid (B_12.out.trans (hb.mono B_12.out.size))
          clear hb ho H_12 K_12 B_12
          go_wp2_with fail
          refine (CA1.out _ _ X_13.out).mono ?_
          rintro e w14 ⟨rfl, hb⟩
          have K_14 := Lib.hid (K_13.out.ext hb)
          have B_14 := Lib.hid (B_13.out.trans (hb.mono B_13.out.size))
          clear hb X_13 K_13 B_13
          go_wp2_with fail
          refine (cOwnM.out _ _ K_14.out).mono ?_
          rintro e w15 ⟨x, rfl, ho, hb⟩
          have X_15 := Lib.hid (Sl.of_own ho)
          have B_15 := Lib.hid (B_14.out.trans (hb.mono B_14.out.size))
          clear hb ho K_14 B_14
          go_wp2_with fail
          refine (CB1.out _ _ X_15.out).mono ?_
          rintro e w16 ⟨rfl, hb⟩
          have B_16 := Lib.hid (B_15.out.trans (hb.mono B_15.out.size))
          clear hb X_15 B_15
          go_wp2_with fail
          refine (known_any _).mono ?_
          rintro e w17 ⟨rfl, hb⟩
          have B_17 := Lib.hid (B_16.out.trans (hb.mono B_16.out.size))
          clear hb B_16
          go_wp2
          go_ret
          exact ⟨rfl, B_17.out⟩
      · have hen' : ((S.length : Int) == n) = false := by simpa using hen
        clear hen
        go_wp2_with fail
        refine (known_any _).mono ?_
        rintro e w13 ⟨rfl, hb⟩
        have B_13 := Lib.hid (B_12.out.trans (hb.mono B_12.out.size))
        clear hb H_12 K_12 B_12
        go_wp2
        go_ret
        exact ⟨rfl, B_13.out⟩
    · have hQ : equivB l m = false := by
        have : ¬ equivB l m = true := fun e => hnm ((formS_eq_iff e2 f2).1 (hB.1 e)).1
        simpa using this
      have hne : (inL l != inL m) = true := by simpa using hnm
      simp only [hQ] at cE
      generalize insS l = X at *
      generalize insS m = Y at *
      generalize inL l = n at *
      generalize inL m = n' at *
      have cE' := Lib.hid cE; have cL' := Lib.hid cL; have cM' := Lib.hid cM; have cX' := Lib.hid cX; have cY' := Lib.hid cY; have cF' := Lib.hid cF
      clear cE cL cM cX cY cF hB hQ h0 hl0 hm0 e1 e2 e3 e4 f1 f2 f3 f4 hbl hbm hX hY h h' hd hd' hl hl' f5
      go_enter Try.func10, Try.ntmps10
      go_wp2_with fail
      refine (cOwn.out _ _ H.out).mono ?_
      rintro e w1 ⟨x, rfl, ho, hb⟩
      have H_1 := Lib.hid (H.out.ext hb)
      have K_1 := Lib.hid (K.out.ext hb)
      have X_1 := Lib.hid (Sl.of_own ho)
      have B_1 := Lib.hid hb
      clear hb ho H K
      go_wp2_with fail
      refine (cOwnM.out _ _ K_1.out).mono ?_
      rintro e w2 ⟨y, rfl, ho, hb⟩
      have H_2 := Lib.hid (H_1.out.ext hb)
      have K_2 := Lib.hid (K_1.out.ext hb)
      have X_2 := Lib.hid (X_1.out.ext hb)
      have Y_2 := Lib.hid (Sl.of_own ho)
      have B_2 := Lib.hid (B_1.out.trans (hb.mono B_1.out.size))
      clear hb ho H_1 K_1 X_1 B_1
      go_wp2_with fail
      refine (cE'.out _ _ _ X_2.out Y_2.out).mono ?_
      rintro e w3 ⟨rfl, hb⟩
      have H_3 := Lib.hid (H_2.out.ext hb)
      have K_3 := Lib.hid (K_2.out.ext hb)
      have B_3 := Lib.hid (B_2.out.trans (hb.mono B_2.out.size))
      clear hb X_2 Y_2 H_2 K_2 B_2
      go_wp2_with fail
      refine (cOwn.out _ _ H_3.out).mono ?_
      rintro e w4 ⟨x, rfl, ho, hb⟩
      have H_4 := Lib.hid (H_3.out.ext hb)
      have K_4 := Lib.hid (K_3.out.ext hb)
      have X_4 := Lib.hid (Sl.of_own ho)
      have B_4 := Lib.hid (B_3.out.trans (hb.mono B_3.out.size))
      clear hb ho H_3 K_3 B_3
      go_wp2_with fail
      refine (cL'.out _ _ X_4.out).mono ?_
      rintro e w5 ⟨rfl, hb⟩
      have H_5 := Lib.hid (H_4.out.ext hb)
      have K_5 := Lib.hid (K_4.out.ext hb)
      have B_5 := Lib.hid (B_4.out.trans (hb.mono B_4.out.size))
      clear hb X_4 H_4 K_4 B_4
      go_wp2_with fail
      refine (cOwnM.out _ _ K_5.out).mono ?_
      rintro e w6 ⟨x, rfl, ho, hb⟩
      have H_6 := Lib.hid (H_5.out.ext hb)
      have K_6 := Lib.hid (K_5.out.ext hb)
      have X_6 := Lib.hid (Sl.of_own ho)
      have B_6 := Lib.hid (B_5.out.trans (hb.mono B_5.out.size))
      clear hb ho H_5 K_5 B_5
      go_wp2_with fail
      refine (cM'.out _ _ X_6.out).mono ?_
      rintro e w7 ⟨rfl, hb⟩
      have H_7 := Lib.hid (H_6.out.ext hb)
      have K_7 := Lib.hid (K_6.out.ext hb)
      have B_7 := Lib.hid (B_6.out.trans (hb.mono B_6.out.size))
      clear hb X_6 H_6 K_6 B_6
      go_wp2_with fail
      refine (cOwn.out _ _ H_7.out).mono ?_
      rintro e w8 ⟨x, rfl, ho, hb⟩
      have H_8 := Lib.hid (H_7.out.ext hb)
      have K_8 := Lib.hid (K_7.out.ext hb)
      have X_8 := Lib.hid (Sl.of_own ho)
      have B_8 := Lib.hid (B_7.out.trans (hb.mono B_7.out.size))
      clear hb ho H_7 K_7 B_7
      go_wp2_with fail
      refine (cX'.out _ _ X_8.out).mono ?_
      rintro e w9 ⟨rfl, hb⟩
      have H_9 := Lib.hid (H_8.out.ext hb)
      have K_9 := Lib.hid (K_8.out.ext hb)
      have B_9 := Lib.hid (B_8.out.trans (hb.mono B_8.out.size))
      clear hb X_8 H_8 K_8 B_8
      go_wp2_with fail
      refine (cOwnM.out _ _ K_9.out).mono ?_
      rintro e w10 ⟨x, rfl, ho, hb⟩
      have H_10 := Lib.hid (H_9.out.ext hb)
      have K_10 := Lib.hid (K_9.out.ext hb)
      have X_10 := Lib.hid (Sl.of_own ho)
      have B_10 := Lib.hid (B_9.out.trans (hb.mono B_9.out.size))
      clear hb ho H_9 K_9 B_9
      go_wp2_with fail
      refine (cY'.out _ _ X_10.out).mono ?_
      rintro e w11 ⟨rfl, hb⟩
      have H_11 := Lib.hid (H_10.out.ext hb)
      have K_11 := Lib.hid (K_10.out.ext hb)
      have B_11 := Lib.hid (B_10.out.trans (hb.mono B_10.out.size))
      clear hb X_10 H_10 K_10 B_10
      go_wp2_with fail
      refine (cF'.out _).mono ?_
      rintro e w12 ⟨S, rfl, s1, s2, s3, hb⟩
      have H_12 := Lib.hid (H_11.out.ext hb)
      have K_12 := Lib.hid (K_11.out.ext hb)
      have B_12 := Lib.hid (B_11.out.trans (hb.mono B_11.out.size))
      clear hb H_11 K_11 B_11
      go_wp2_with fail
      refine (known_any _).mono ?_
      rintro e w13 ⟨rfl, hb⟩
      have B_13 := Lib.hid (B_12.out.trans (hb.mono B_12.out.size))
      clear hb H_12 K_12 B_12
      go_wp2
      go_ret
      exact ⟨rfl, B_13.out⟩
  · have hb : (equivE l m != 0) = true := by simpa using h0
    generalize equivE l m = E at *
    generalize equivB l m = Q at *
    have cE' := Lib.hid cE
    clear cE h0 h h' hd hd' hl hl'
    go_enter Try.func10, Try.ntmps10
    go_wp2_with fail
    refine (cOwn.out _ _ H.out).mono ?_
    rintro e w1 ⟨x, rfl, ho, hb⟩
    have K_1 := Lib.hid (K.out.ext hb)
    have X_1 := Lib.hid (Sl.of_own ho)
    have B_1 := Lib.hid hb
    clear hb ho H K
    go_wp2_with fail
    refine (cOwnM.out _ _ K_1.out).mono ?_
    rintro e w2 ⟨y, rfl, ho, hb⟩
    have X_2 := Lib.hid (X_1.out.ext hb)
    have Y_2 := Lib.hid (Sl.of_own ho)
    have B_2 := Lib.hid (B_1.out.trans (hb.mono B_1.out.size))
    clear hb ho K_1 X_1 B_1
    go_wp2_with fail
    refine (cE'.out _ _ _ X_2.out Y_2.out).mono ?_
    rintro e w3 ⟨rfl, hb⟩
    have B_3 := Lib.hid (B_2.out.trans (hb.mono B_2.out.size))
    clear hb X_2 Y_2 B_2
    go_wp2_with fail
    refine (known_any _).mono ?_
    rintro e w4 ⟨rfl, hb⟩
    have B_4 := Lib.hid (B_3.out.trans (hb.mono B_3.out.size))
    clear hb B_3
    go_wp2
    go_ret
    exact ⟨rfl, B_4.out⟩

end Go.Proofs.Ytpbnciioeiohlaa
