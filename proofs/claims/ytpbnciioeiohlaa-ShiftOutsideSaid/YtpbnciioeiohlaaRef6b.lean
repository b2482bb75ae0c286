/- quartoref06.Move, Position, Back, Kept, Range: what they return. Condition: the pieces and numbers read as values of their types. -/
import Derived.Test.YtpbnciioeiohlaaRef6
import Derived.Test.YtpbnciioeiohlaaKept
namespace Go.Proofs.Ytpbnciioeiohlaa
open Go.RowKit

theorem sizes_io {l : List Pc} (h : errL l = 0) : (sizesS l).1 = inL l ∧ (sizesS l).2 = outL l := by
  have h1 := (lens_ok h).2.1
  rw [lens_of_err h] at h1
  simp only [Prod.mk.injEq] at h1
  exact ⟨h1.1.symm, h1.2.1.symm⟩
theorem left_eq {l : List Pc} (h : Mod l) (t : Bool) (x : Int) : leftQ x 0 (runsT t l) = leftP x 0 (runsT t l) :=
  leftQ_eq x _ 0 (runsT_up h.1 t) (fun r hr => (runs_ok h t r hr).2.2.2.2.1)
theorem runs_le {l : List Pc} (h : Mod l) : (runsT false l).length ≤ 100000 := Nat.le_trans (runs_len l 0 0) h.2.1
theorem turn_eq (l : List Pc) : (runsT false l).map turnR = runsT true l := rfl

set_option maxHeartbeats 1000000 in
set_option maxRecDepth 100000 in
theorem refMove_any (v : Value) (l : List Pc) (x g : Int) (w : World) (h : Sl pcE w v l) (he : errL l = 0) (hg : g = 0 ∨ g = 1) (h0 : 0 ≤ x) (h1 : x ≤ 10000000000000) :
    Calls Try.prog 73 #[v, .int .i64 x, .int .u8 g] w fun e w' => e = .returned (.int .i64 (if g = 0 then leftP x 0 (runsT false l) else rightP x (outL l) (runsT false l))) ∧ Below w.heap.size w w' := by
  have hm := mod_of he
  have cR := fun w h => refRuns_any v l w h hm
  have cL := fun w y (h : Sl rnE w y (runsT false l)) => refLeft_any y (runsT false l) x w h (runs_ok hm false) h0 h1
  have cT := fun w y (h : Sl rnE w y (runsT false l)) => refRight_any y (runsT false l) x (outL l) w h (runs_ok hm false) h0 h1
  have cS := fun w h => refSizes_any v l w h hm.2
  rw [(sizes_io he).1, (sizes_io he).2] at cS
  simp only [left_eq hm] at cL
  have CR := Lib.hid cR; have CL := Lib.hid cL; have CT := Lib.hid cT; have CS := Lib.hid cS; have H := Lib.hid h
  clear cR cL cT cS h hm he
  rcases hg with rfl | rfl
  · rw [if_pos rfl]
    generalize leftP x 0 (runsT false l) = L at *
    go_enter Try.func73, Try.ntmps73
    go_wp2_with fail
    refine (CR.out _ H.out).mono ?_
    rintro e w1 ⟨v1, rfl, ho, hb⟩
    have S1 := Lib.hid (Sl.of_own ho); have B1 := Lib.hid hb
    clear ho hb
    go_wp2_with fail
    refine (CL.out _ _ S1.out).mono ?_
    rintro e w2 ⟨rfl, hb⟩
    have B2 := Lib.hid (B1.out.trans (hb.mono B1.out.size))
    clear hb
    go_wp2
    go_ret
    exact ⟨rfl, B2.out⟩
  · rw [if_neg (by omega)]
    generalize rightP x (outL l) (runsT false l) = L at *
    go_enter Try.func73, Try.ntmps73
    go_wp2_with fail
    refine (CS.out _ H.out).mono ?_
    rintro e w0 ⟨rfl, hb⟩
    have H0 := Lib.hid (H.out.ext hb); have B0 := Lib.hid hb
    clear hb
    go_wp2_with fail
    refine (CR.out _ H0.out).mono ?_
    rintro e w1 ⟨v1, rfl, ho, hb⟩
    have S1 := Lib.hid (Sl.of_own ho); have B1 := Lib.hid (B0.out.trans (hb.mono B0.out.size))
    clear ho hb
    go_wp2_with fail
    refine (CT.out _ _ S1.out).mono ?_
    rintro e w2 ⟨rfl, hb⟩
    have B2 := Lib.hid (B1.out.trans (hb.mono B1.out.size))
    clear hb
    go_wp2
    go_ret
    exact ⟨rfl, B2.out⟩

set_option maxHeartbeats 1000000 in
set_option maxRecDepth 100000 in
theorem refPosition_any (v : Value) (l : List Pc) (x g : Int) (w : World) (h : Sl pcE w v l) (hd : ∀ p, p ∈ l → p.wf) (hg0 : 0 ≤ g) :
    Calls Try.prog 43 #[v, .int .i64 x, .int .u8 g] w fun e w' => e = .returned (.tuple #[.int .i64 (posV l x g), .int .i64 (posE l x g)]) ∧ Below w.heap.size w w' := by
  have hc := refLengths_any v l w h hd
  by_cases h0 : errL l = 0
  · rw [lensV_ok h0] at hc
    obtain ⟨m1, m2, m3, m4⟩ := mod_io h0
    by_cases h1 : g ≠ 0 ∧ g ≠ 1
    · have e1 : posE l x g = 2 := by rw [posE, if_pos h0, movE, if_pos h1]
      have e2 : posV l x g = 0 := by rw [posV, if_pos h0, movV, movE, if_pos h1, if_neg (by omega)]
      have hgt : 1 < g := by omega
      have E1 := Lib.hid e1; have E2 := Lib.hid e2; have Hc := Lib.hid hc
      clear e1 e2 h1 hc h0 hd h
      go_enter Try.func43, Try.ntmps43
      go_wp2_with fail
      refine (Hc.out).mono ?_
      rintro e w1 ⟨rfl, hb1⟩
      go_wp2
      go_ret2
      exact ⟨by rw [E1.out, E2.out]; rfl, hb1⟩
    · have hgg : g = 0 ∨ g = 1 := by omega
      have hng : ¬ 1 < g := by omega
      by_cases h2 : x < 0 ∨ inL l < x
      · have e1 : posE l x g = 3 := by rw [posE, if_pos h0, movE, if_neg h1, if_pos h2]
        have e2 : posV l x g = 0 := by rw [posV, if_pos h0, movV, movE, if_neg h1, if_pos h2, if_neg (by omega)]
        have E1 := Lib.hid e1; have E2 := Lib.hid e2; have Hc := Lib.hid hc
        clear e1 e2 h1 hc h0 hd h
        generalize inL l = n at *
        generalize outL l = m at *
        by_cases h3 : x < 0
        · go_enter Try.func43, Try.ntmps43
          go_wp2_with fail
          refine (Hc.out).mono ?_
          rintro e w1 ⟨rfl, hb1⟩
          go_wp2
          go_ret2
          exact ⟨by rw [E1.out, E2.out]; rfl, hb1⟩
        · have h4 : n < x := by omega
          clear h2
          go_enter Try.func43, Try.ntmps43
          go_wp2_with fail
          refine (Hc.out).mono ?_
          rintro e w1 ⟨rfl, hb1⟩
          go_wp2
          go_ret2
          exact ⟨by rw [E1.out, E2.out]; rfl, hb1⟩
      · have h3 : ¬ x < 0 := by omega
        have h4 : ¬ inL l < x := by omega
        have e1 : posE l x g = 0 := by rw [posE, if_pos h0, movE, if_neg h1, if_neg h2]
        have e2 : posV l x g = if g = 0 then leftP x 0 (runsT false l) else rightP x (outL l) (runsT false l) := by rw [posV, if_pos h0, movV, movE, if_neg h1, if_neg h2, if_pos rfl]
        have cM := fun w h => refMove_any v l x g w h h0 hgg (by omega) (by omega)
        rw [← e2] at cM
        have E1 := Lib.hid e1; have Hc := Lib.hid hc; have CM := Lib.hid cM; have H := Lib.hid h
        clear e1 e2 h1 hc h0 hd h cM h2 hgg
        generalize posV l x g = P at *
        generalize inL l = n at *
        generalize outL l = m at *
        go_enter Try.func43, Try.ntmps43
        go_wp2_with fail
        refine (Hc.out).mono ?_
        rintro e w1 ⟨rfl, hb1⟩
        have H1 := Lib.hid (H.out.ext hb1)
        go_wp2_with fail
        refine (CM.out _ H1.out).mono ?_
        rintro e w2 ⟨rfl, hb2⟩
        go_wp2
        go_ret2
        exact ⟨by rw [E1.out]; rfl, hb1.trans (hb2.mono hb1.size)⟩
  · have hl := lens_err h0
    have e1 : posE l x g = errL l := by rw [posE, if_neg h0]
    have e2 : posV l x g = 0 := by rw [posV, if_neg h0]
    have hb : (errL l != 0) = true := by simpa using h0
    rw [show lensV l = .tuple #[.int .i64 0, .int .i64 0, .int .i64 (errL l)] by unfold lensV; rw [hl]; rfl] at hc
    generalize errL l = E at *
    have Hc := Lib.hid hc; have E1 := Lib.hid e1; have E2 := Lib.hid e2
    clear hc e1 h hd hl h0 e2
    go_enter Try.func43, Try.ntmps43
    go_wp2_with fail
    refine (Hc.out).mono ?_
    rintro e w1 ⟨rfl, hb1⟩
    go_wp2
    go_ret2
    exact ⟨by rw [E1.out, E2.out]; rfl, hb1⟩

set_option maxHeartbeats 1000000 in
set_option maxRecDepth 100000 in
theorem refBack_any (v : Value) (l : List Pc) (x g : Int) (w : World) (h : Sl pcE w v l) (hd : ∀ p, p ∈ l → p.wf) (hg0 : 0 ≤ g) :
    Calls Try.prog 45 #[v, .int .i64 x, .int .u8 g] w fun e w' => e = .returned (.tuple #[.int .i64 (backV l x g), .int .i64 (backE l x g)]) ∧ Below w.heap.size w w' := by
  have hc := refLengths_any v l w h hd
  by_cases h0 : errL l = 0
  · rw [lensV_ok h0] at hc
    obtain ⟨m1, m2, m3, m4⟩ := mod_io h0
    by_cases h1 : g ≠ 0 ∧ g ≠ 1
    · have e1 : backE l x g = 2 := by rw [backE, if_pos h0, movE, if_pos h1]
      have e2 : backV l x g = 0 := by rw [backV, if_pos h0, movV, movE, if_pos h1, if_neg (by omega)]
      have hgt : 1 < g := by omega
      have E1 := Lib.hid e1; have E2 := Lib.hid e2; have Hc := Lib.hid hc
      clear e1 e2 h1 hc h0 hd h
      go_enter Try.func45, Try.ntmps45
      go_wp2_with fail
      refine (Hc.out).mono ?_
      rintro e w1 ⟨rfl, hb1⟩
      go_wp2
      go_ret2
      exact ⟨by rw [E1.out, E2.out]; rfl, hb1⟩
    · have hgg : g = 0 ∨ g = 1 := by omega
      have hng : ¬ 1 < g := by omega
      by_cases h2 : x < 0 ∨ outL l < x
      · have e1 : backE l x g = 3 := by rw [backE, if_pos h0, movE, if_neg h1, if_pos h2]
        have e2 : backV l x g = 0 := by rw [backV, if_pos h0, movV, movE, if_neg h1, if_pos h2, if_neg (by omega)]
        have E1 := Lib.hid e1; have E2 := Lib.hid e2; have Hc := Lib.hid hc
        clear e1 e2 h1 hc h0 hd h
        generalize inL l = n at *
        generalize outL l = m at *
        by_cases h3 : x < 0
        · go_enter Try.func45, Try.ntmps45
          go_wp2_with fail
          refine (Hc.out).mono ?_
          rintro e w1 ⟨rfl, hb1⟩
          go_wp2
          go_ret2
          exact ⟨by rw [E1.out, E2.out]; rfl, hb1⟩
        · have h4 : m < x := by omega
          clear h2
          go_enter Try.func45, Try.ntmps45
          go_wp2_with fail
          refine (Hc.out).mono ?_
          rintro e w1 ⟨rfl, hb1⟩
          go_wp2
          go_ret2
          exact ⟨by rw [E1.out, E2.out]; rfl, hb1⟩
      · have h3 : ¬ x < 0 := by omega
        have h4 : ¬ outL l < x := by omega
        have e1 : backE l x g = 0 := by rw [backE, if_pos h0, movE, if_neg h1, if_neg h2]
        have e2 : backV l x g = if g = 0 then leftP x 0 (runsT true l) else rightP x (inL l) (runsT true l) := by rw [backV, if_pos h0, movV, movE, if_neg h1, if_neg h2, if_pos rfl]
        have hm := mod_of h0
        have cR := fun w h => refRuns_any v l w h hm
        have cT := fun w y (h : Sl rnE w y (runsT false l)) => refTurned_any y (runsT false l) w h (runs_le hm)
        simp only [turn_eq] at cT
        have E1 := Lib.hid e1; have Hc := Lib.hid hc; have H := Lib.hid h
        clear e1 h1 hc hd h h2
        rcases hgg with rfl | rfl
        · rw [if_pos rfl] at e2
          have cL := fun w y (h : Sl rnE w y (runsT true l)) => refLeft_any y (runsT true l) x w h (runs_ok hm true) (by omega) (by omega)
          simp only [left_eq hm] at cL
          rw [← e2] at cL
          have CR := Lib.hid cR; have CT := Lib.hid cT; have CL := Lib.hid cL
          clear cR cT cL e2 hm h0
          generalize backV l x 0 = P at *
          generalize inL l = n at *
          generalize outL l = m at *
          go_enter Try.func45, Try.ntmps45
          go_wp2_with fail
          refine (Hc.out).mono ?_
          rintro e w1 ⟨rfl, hb⟩
          have H1 := Lib.hid (H.out.ext hb); have B1 := Lib.hid hb
          clear hb
          go_wp2_with fail
          refine (CR.out _ H1.out).mono ?_
          rintro e w2 ⟨v2, rfl, ho, hb⟩
          have S2 := Lib.hid (Sl.of_own ho); have B2 := Lib.hid (B1.out.trans (hb.mono B1.out.size))
          clear ho hb
          go_wp2_with fail
          refine (CT.out _ _ S2.out).mono ?_
          rintro e w3 ⟨v3, rfl, ho, hb⟩
          have S3 := Lib.hid (Sl.of_own ho); have B3 := Lib.hid (B2.out.trans (hb.mono B2.out.size))
          clear ho hb
          go_wp2_with fail
          refine (CL.out _ _ S3.out).mono ?_
          rintro e w4 ⟨rfl, hb⟩
          have B4 := Lib.hid (B3.out.trans (hb.mono B3.out.size))
          clear hb
          go_wp2
          go_ret2
          exact ⟨by rw [E1.out]; rfl, B4.out⟩
        · rw [if_neg (by omega)] at e2
          have cL := fun w y (h : Sl rnE w y (runsT true l)) => refRight_any y (runsT true l) x (inL l) w h (runs_ok hm true) (by omega) (by omega)
          rw [← e2] at cL
          have CR := Lib.hid cR; have CT := Lib.hid cT; have CL := Lib.hid cL
          clear cR cT cL e2 hm h0
          generalize backV l x 1 = P at *
          generalize inL l = n at *
          generalize outL l = m at *
          go_enter Try.func45, Try.ntmps45
          go_wp2_with fail
          refine (Hc.out).mono ?_
          rintro e w1 ⟨rfl, hb⟩
          have H1 := Lib.hid (H.out.ext hb); have B1 := Lib.hid hb
          clear hb
          go_wp2_with fail
          refine (CR.out _ H1.out).mono ?_
          rintro e w2 ⟨v2, rfl, ho, hb⟩
          have S2 := Lib.hid (Sl.of_own ho); have B2 := Lib.hid (B1.out.trans (hb.mono B1.out.size))
          clear ho hb
          go_wp2_with fail
          refine (CT.out _ _ S2.out).mono ?_
          rintro e w3 ⟨v3, rfl, ho, hb⟩
          have S3 := Lib.hid (Sl.of_own ho); have B3 := Lib.hid (B2.out.trans (hb.mono B2.out.size))
          clear ho hb
          go_wp2_with fail
          refine (CL.out _ _ S3.out).mono ?_
          rintro e w4 ⟨rfl, hb⟩
          have B4 := Lib.hid (B3.out.trans (hb.mono B3.out.size))
          clear hb
          go_wp2
          go_ret2
          exact ⟨by rw [E1.out]; rfl, B4.out⟩
  · have hl := lens_err h0
    have e1 : backE l x g = errL l := by rw [backE, if_neg h0]
    have e2 : backV l x g = 0 := by rw [backV, if_neg h0]
    have hb : (errL l != 0) = true := by simpa using h0
    rw [show lensV l = .tuple #[.int .i64 0, .int .i64 0, .int .i64 (errL l)] by unfold lensV; rw [hl]; rfl] at hc
    generalize errL l = E at *
    have Hc := Lib.hid hc; have E1 := Lib.hid e1; have E2 := Lib.hid e2
    clear hc e1 h hd hl h0 e2
    go_enter Try.func45, Try.ntmps45
    go_wp2_with fail
    refine (Hc.out).mono ?_
    rintro e w1 ⟨rfl, hb1⟩
    go_wp2
    go_ret2
    exact ⟨by rw [E1.out, E2.out]; rfl, hb1⟩

end Go.Proofs.Ytpbnciioeiohlaa
