/- quartolaw06.ShiftOutside returns true: the walk. -/
import Derived.Test.YtpbnciioeiohlaaPlainO
import Derived.IntWalk
import Derived.BigQuiet
namespace Go.Proofs.Ytpbnciioeiohlaa
open Go.RowKit

/-- what both tells at a position, by what is kept there -/
theorem both_at {l : List Pc} {x : Int} (h0 : errL l = 0) (h1 : 0 ≤ x) (h2 : x ≤ inL l) : bothOk l x = true ∧ posV l x 0 = leftP x 0 (runsT false l) ∧ posV l x 1 = rightP x (outL l) (runsT false l) := by
  have hb : bothOk l x = true := by
    have e1 : posE l x 0 = 0 := by rw [posE, if_pos h0, movE_ok (by omega) (.inl rfl)]
    simpa [bothOk] using e1
  obtain ⟨_, _, _, a, b⟩ := both_vals hb
  exact ⟨hb, a, b⟩
theorem kept_at {l : List Pc} {x : Int} (h0 : errL l = 0) (h1 : 0 ≤ x) (h2 : x < inL l) : keptE l x = 0 ∧ keptR l x = keptP x (runsT false l) := by
  have e : keptE l x = 0 := by rw [keptE, if_pos h0, if_neg (by omega)]
  exact ⟨e, (keptE_ok e).2.2.2⟩
theorem keptV_some {l : List Pc} {x j : Int} (h : keptE l x = 0) (h' : keptR l x = some j) : keptV l x = .tuple #[.int .i64 j, .bool true, .int .i64 0] := by
  rw [keptV, h', h]; rfl
theorem keptV_none {l : List Pc} {x : Int} (h : keptE l x = 0) (h' : keptR l x = none) : keptV l x = .tuple #[.int .i64 0, .bool false, .int .i64 0] := by
  rw [keptV, h', h]; rfl

set_option maxHeartbeats 4000000 in
set_option maxRecDepth 100000 in
theorem lawShiftOutside_any (s : List UInt8) (v : Value) (l : List Pc) (x : Int) (w : World) (hs : s.length ≤ 140737488351232) (h : Sl pcE w v l) (hd : ∀ p, p ∈ l → p.wf) (hl : l.length * 32 ≤ 140737488355328) (_hx : -9223372036854775808 ≤ x) (_hx' : x ≤ 9223372036854775807) :
    Calls Try.prog 20 #[.string ⟨s.toArray⟩, v, .int .i64 x] w fun e w' => e = .returned (.bool true) ∧ Below w.heap.size w w' := by
  have hs' : s.length ≤ 9223372036854775807 := by omega
  have cOwn := Lib.hid fun w x h => own6_any x l w h hl
  have cA := fun w z h => apply_any s z l w hs' h hd
  have H := Lib.hid h
  by_cases h0 : fitE s l = 0
  · obtain ⟨h1, h2, h3⟩ := fit_ok h0
    obtain ⟨-, h5⟩ := apply_eq h0
    obtain ⟨m1, m2, m3, m4⟩ := mod_io h1
    obtain ⟨p, q, r, e, o1, o2, o3, o4, o5, o6, o7, o8, o9⟩ := outside h0
    have oK := fun i j => kept_byte (i := i) (j := j) h0
    have cE := fun w z h => extent_any z l w h hd
    have cB := fun w z h => both_any z l x w h hd hl
    have cK := fun w z h => kept_any z l x w h hd
    simp only [o1, exV] at cE
    simp only [h0] at cA
    generalize applyS s l = T at *
    have hx1 : (⟨s.toArray⟩ : ByteArray).extract 0 p = ⟨(s.take p).toArray⟩ := by rw [ext_str]; simp
    have hx2 : (⟨T.toArray⟩ : ByteArray).extract 0 p = ⟨(s.take p).toArray⟩ := by rw [ext_str, o8]; simp
    have hx3 : (⟨s.toArray⟩ : ByteArray).extract q s.length = ⟨(s.drop q).toArray⟩ := by rw [ext_str]; simp
    have hx4 : (⟨T.toArray⟩ : ByteArray).extract e T.length = ⟨(s.drop q).toArray⟩ := by rw [ext_str, o9]; simp
    have hT : T.length ≤ 1048576 := by omega
    have n1 : decide ((p : Int) < 0) = false := decide_eq_false (by omega)
    have n2 : decide ((q : Int) < p) = false := decide_eq_false (by omega)
    have n2' : decide (q < p) = false := decide_eq_false (by omega)
    have n3 : decide ((s.length : Int) < q) = false := decide_eq_false (by omega)
    have n3' : decide (s.length < q) = false := decide_eq_false (by omega)
    have n4 : decide ((e : Int) < p) = false := decide_eq_false (by omega)
    have n4' : decide (e < p) = false := decide_eq_false (by omega)
    have n5 : decide ((T.length : Int) < e) = false := decide_eq_false (by omega)
    have n5' : decide (T.length < e) = false := decide_eq_false (by omega)
    have n6 : IntKind.i64.wrap ((T.length : Int) - (e : Int)) = r := by rw [IntWalk.i64_in _ (by omega)]; omega
    have n7 : IntKind.i64.wrap ((s.length : Int) - (q : Int)) = r := by rw [IntWalk.i64_in _ (by omega)]; omega
    have i1 : (p : Int) ≤ s.length := by omega
    have i1' : p ≤ s.length := by omega
    have i2 : (p : Int) ≤ T.length := by omega
    have i2' : p ≤ T.length := by omega
    have i3 : (q : Int) ≤ s.length := by omega
    have i3' : q ≤ s.length := by omega
    have i4 : (e : Int) ≤ T.length := by omega
    have i4' : e ≤ T.length := by omega
    have CA := Lib.hid cA; have CE := Lib.hid cE; have CB := Lib.hid cB; have CK := Lib.hid cK
    have O6 := Lib.hid o6; have O7 := Lib.hid o7; have OK := Lib.hid oK
    have R4 := Lib.hid o4; have R5 := Lib.hid o5; have P1 := Lib.hid h1; have P2 := Lib.hid h2; have P3 := Lib.hid h3; have P5 := Lib.hid h5; have R2 := Lib.hid o2; have R3 := Lib.hid o3
    clear cA cE cB cK o6 o7 oK o8 o9 o1 o2 o3 o4 o5 h hd hl h0 h1 h2 h3 h5 m1 m2 m3 m4 hs hs'
    go_enter Try.func20, Try.ntmps20
    go_wp2_with fail
    refine (cOwn.out _ _ H.out).mono ?_
    rintro e w1 ⟨x0, rfl, ho, hb⟩
    have H_1 := Lib.hid (H.out.ext hb)
    have X_1 := Lib.hid (Sl.of_own ho)
    have B_1 := Lib.hid hb
    clear hb ho H
    go_wp2_with fail
    refine (CA.out _ _ X_1.out).mono ?_
    rintro e w2 ⟨rfl, hb⟩
    have H_2 := Lib.hid (H_1.out.ext hb)
    have B_2 := Lib.hid (B_1.out.trans (hb.mono B_1.out.size))
    clear hb X_1 H_1 B_1
    go_wp2_with fail
    refine (cOwn.out _ _ H_2.out).mono ?_
    rintro e w3 ⟨x2, rfl, ho, hb⟩
    have H_3 := Lib.hid (H_2.out.ext hb)
    have X_3 := Lib.hid (Sl.of_own ho)
    have B_3 := Lib.hid (B_2.out.trans (hb.mono B_2.out.size))
    clear hb ho H_2 B_2
    go_wp2_with fail
    refine (CE.out _ _ X_3.out).mono ?_
    rintro e w4 ⟨rfl, hb⟩
    have H_4 := Lib.hid (H_3.out.ext hb)
    have B_4 := Lib.hid (B_3.out.trans (hb.mono B_3.out.size))
    clear hb X_3 H_3 B_3
    go_wp2_with fail
    go_quiet (fail)
    have B_4d := Lib.hid (below_drewN B_4.out nq)
    have H_4d := Lib.hid (H_4.out.ext (below_drewN (Below.refl _ _) nq))
    clear H_4
    generalize w4.drewN nq = w4d at *
    clear B_4 nq
    by_cases g1 : x < 0
    · go_wp2_with fail
      refine (known6_any _).mono ?_
      rintro e w5 ⟨rfl, hb⟩
      have B_5 := Lib.hid (B_4d.out.trans (hb.mono B_4d.out.size))
      clear hb H_4d B_4d
      go_wp2
      go_ret
      exact ⟨rfl, B_5.out⟩
    · by_cases g2 : (s.length : Int) < x
      · go_wp2_with fail
        refine (known6_any _).mono ?_
        rintro e w5 ⟨rfl, hb⟩
        have B_5 := Lib.hid (B_4d.out.trans (hb.mono B_4d.out.size))
        clear hb H_4d B_4d
        go_wp2
        go_ret
        exact ⟨rfl, B_5.out⟩
      · obtain ⟨m, rfl⟩ := Int.eq_ofNat_of_zero_le (show 0 ≤ x by omega)
        obtain ⟨bb, bL, bR⟩ := both_at P1.out (show (0 : Int) ≤ (m : Int) by omega) (show (m : Int) ≤ inL l by have := P3.out; omega)
        have cB := CB.out
        simp only [bb] at cB
        have gm : m ≤ s.length := by omega
        have gk0 : ¬ (m : Int) < 0 := by omega
        have gk1 : ¬ (s.length : Int) < m := by omega
        clear g1 g2 CB bb
        by_cases u1 : m < p
        · obtain ⟨eL, eR⟩ := pos_before P2.out (O6.out m (by omega) (by omega)) (show ((m : Int) = 0 ∧ (m : Int) = 0) ∨ KT false l ((m : Int) - 1) ((m : Int) - 1) from (Nat.eq_zero_or_pos m).elim (fun hm => .inl ⟨by omega, by omega⟩) (fun hm => .inr (O6.out ((m : Int) - 1) (by omega) (by omega))))
          rw [eL] at bL
          rw [eR] at bR
          simp only [bL, bR] at cB
          have HK := Lib.hid (O6.out m (by omega) (by omega))
          clear bL bR eL eR
          have r2 := R2.out
          have t1 : decide ((m : Int) < p) = true := decide_eq_true (by omega)
          have t1' : decide (m < p) = true := decide_eq_true (by omega)
          have t2 : decide ((q : Int) < m) = false := decide_eq_false (by omega)
          have t2' : decide (q < m) = false := decide_eq_false (by omega)
          clear r2
          obtain ⟨k1, k2⟩ := kept_at P1.out (show (0 : Int) ≤ (m : Int) by omega) (show (m : Int) < inL l by have := P3.out; omega)
          have cK := CK.out
          simp only [keptV_some k1 (k2.trans ((keptL P2.out false _ _).2 HK.out))] at cK
          obtain ⟨ia, ib, ja, jb, ea, eb, ee⟩ := OK.out _ _ HK.out
          obtain rfl : m = ia := by omega
          obtain rfl : m = ib := by omega
          clear HK
          have hgT : ∀ h, (⟨T.toArray⟩ : ByteArray)[m]'h = s[m] := fun _ => ee
          have hgS : ∀ h, (⟨s.toArray⟩ : ByteArray)[m]'h = s[m] := fun _ => rfl
          have jz : decide ((m : Int) < 0) = false := decide_eq_false (by omega)
          have jc : decide ((T.length : Int) ≤ m) = false := decide_eq_false (by omega)
          have jc' : decide (T.length ≤ m) = false := decide_eq_false (by omega)
          have jd : (m : Int) < T.length := by omega
          have ja' : (m : Int) < s.length := by omega
          clear k1 k2 CK OK ea eb ee P1 P2 P3 P5 O6 O7 R2 R3 R4 R5
          go_wp2_with fail
          refine (cB _ _ H_4d.out).mono ?_
          rintro e w5 ⟨rfl, hb⟩
          have H_5 := Lib.hid (H_4d.out.ext hb)
          have B_5 := Lib.hid (B_4d.out.trans (hb.mono B_4d.out.size))
          clear hb H_4d B_4d
          go_wp2_with fail
          refine (cOwn.out _ _ H_5.out).mono ?_
          rintro e w6 ⟨z5, rfl, ho, hb⟩
          have X_6 := Lib.hid (Sl.of_own ho)
          have B_6 := Lib.hid (B_5.out.trans (hb.mono B_5.out.size))
          clear hb ho H_5 B_5
          go_wp2_with fail
          refine (cK _ _ X_6.out).mono ?_
          rintro e w7 ⟨rfl, hb⟩
          have B_7 := Lib.hid (B_6.out.trans (hb.mono B_6.out.size))
          clear hb X_6 B_6
          go_wp2_with fail
          go_quiet (fail)
          have B_7d := Lib.hid (below_drewN B_7.out nq)
          generalize w7.drewN nq = w7d at *
          clear B_7 nq
          go_wp2_with fail
          refine (known6_any _).mono ?_
          rintro e w8 ⟨rfl, hb⟩
          have B_8 := Lib.hid (B_7d.out.trans (hb.mono B_7d.out.size))
          clear hb B_7d
          go_wp2
          go_ret
          exact ⟨rfl, B_8.out⟩
        · by_cases u2 : q < m
          · have t1 : decide ((m : Int) < p) = false := decide_eq_false (by omega)
            have t1' : decide (m < p) = false := decide_eq_false (by omega)
            have t2 : decide ((q : Int) < m) = true := decide_eq_true (by omega)
            have t2' : decide (q < m) = true := decide_eq_true (by omega)
            obtain ⟨d, hd⟩ : ∃ d, d = m - q := ⟨_, rfl⟩
            obtain ⟨j, hj⟩ : ∃ j, j = d + e := ⟨_, rfl⟩
            have r4 := R4.out
            have r5 := R5.out
            have w1 : IntKind.i64.wrap ((m : Int) - (q : Int)) = (d : Int) := by rw [IntWalk.i64_in _ (by omega)]; omega
            have w2 : IntKind.i64.wrap ((d : Int) + (e : Int)) = (j : Int) := by rw [IntWalk.i64_in _ (by omega)]; omega
            by_cases u3 : m < s.length
            · have HK := Lib.hid (show KT false l (m : Int) (j : Int) by have := O7.out m (by omega) (by omega); rwa [show (m : Int) - q + e = (j : Int) by omega] at this)
              obtain ⟨eL, eR⟩ := pos_before P2.out HK.out (.inr (by have := O7.out ((m : Int) - 1) (by omega) (by omega); rwa [show (m : Int) - 1 - q + e = (j : Int) - 1 by omega] at this))
              rw [eL] at bL
              rw [eR] at bR
              simp only [bL, bR] at cB
              clear bL bR eL eR r4 r5 hd hj
              obtain ⟨k1, k2⟩ := kept_at P1.out (show (0 : Int) ≤ (m : Int) by omega) (show (m : Int) < inL l by have := P3.out; omega)
              have cK := CK.out
              simp only [keptV_some k1 (k2.trans ((keptL P2.out false _ _).2 HK.out))] at cK
              obtain ⟨ia, ib, ja, jb, ea, eb, ee⟩ := OK.out _ _ HK.out
              obtain rfl : m = ia := by omega
              obtain rfl : j = ib := by omega
              clear HK
              have hgT : ∀ h, (⟨T.toArray⟩ : ByteArray)[j]'h = s[m] := fun _ => ee
              have hgS : ∀ h, (⟨s.toArray⟩ : ByteArray)[m]'h = s[m] := fun _ => rfl
              have jz : decide ((j : Int) < 0) = false := decide_eq_false (by omega)
              have jc : decide ((T.length : Int) ≤ j) = false := decide_eq_false (by omega)
              have jc' : decide (T.length ≤ j) = false := decide_eq_false (by omega)
              have jd : (j : Int) < T.length := by omega
              have ja' : (m : Int) < s.length := by omega
              clear k1 k2 CK OK ea eb ee P1 P2 P3 P5 O6 O7 R2 R3 R4 R5
              go_wp2_with fail
              refine (cB _ _ H_4d.out).mono ?_
              rintro e w5 ⟨rfl, hb⟩
              have H_5 := Lib.hid (H_4d.out.ext hb)
              have B_5 := Lib.hid (B_4d.out.trans (hb.mono B_4d.out.size))
              clear hb H_4d B_4d
              go_wp2_with fail
              refine (cOwn.out _ _ H_5.out).mono ?_
              rintro e w6 ⟨z5, rfl, ho, hb⟩
              have X_6 := Lib.hid (Sl.of_own ho)
              have B_6 := Lib.hid (B_5.out.trans (hb.mono B_5.out.size))
              clear hb ho H_5 B_5
              go_wp2_with fail
              refine (cK _ _ X_6.out).mono ?_
              rintro e w7 ⟨rfl, hb⟩
              have B_7 := Lib.hid (B_6.out.trans (hb.mono B_6.out.size))
              clear hb X_6 B_6
              go_wp2_with fail
              go_quiet (fail)
              have B_7d := Lib.hid (below_drewN B_7.out nq)
              generalize w7.drewN nq = w7d at *
              clear B_7 nq
              go_wp2_with fail
              refine (known6_any _).mono ?_
              rintro e w8 ⟨rfl, hb⟩
              have B_8 := Lib.hid (B_7d.out.trans (hb.mono B_7d.out.size))
              clear hb B_7d
              go_wp2
              go_ret
              exact ⟨rfl, B_8.out⟩
            · have p3 := P3.out
              have p5 := P5.out
              obtain ⟨eL, eR⟩ := pos_end P2.out (x := (m : Int)) (by have := O7.out ((m : Int) - 1) (by omega) (by omega); rwa [show (m : Int) - 1 - q + e = outL l - 1 by omega] at this)
              rw [eL, show outL l = (j : Int) by omega] at bL
              rw [eR, show outL l = (j : Int) by omega] at bR
              simp only [bL, bR] at cB
              clear bL bR eL eR r4 r5 hd hj p3 p5
              have cK := CK.out
              unfold keptV at cK
              generalize optV (keptR l m) = y1 at cK
              generalize (keptR l m).isSome = y2 at cK
              generalize keptE l m = y3 at cK
              have ja' : ¬ (m : Int) < s.length := by omega
              clear CK OK P1 P2 P3 P5 O6 O7 R2 R3 R4 R5
              go_wp2_with fail
              refine (cB _ _ H_4d.out).mono ?_
              rintro e w5 ⟨rfl, hb⟩
              have H_5 := Lib.hid (H_4d.out.ext hb)
              have B_5 := Lib.hid (B_4d.out.trans (hb.mono B_4d.out.size))
              clear hb H_4d B_4d
              go_wp2_with fail
              refine (cOwn.out _ _ H_5.out).mono ?_
              rintro e w6 ⟨z5, rfl, ho, hb⟩
              have X_6 := Lib.hid (Sl.of_own ho)
              have B_6 := Lib.hid (B_5.out.trans (hb.mono B_5.out.size))
              clear hb ho H_5 B_5
              go_wp2_with fail
              refine (cK _ _ X_6.out).mono ?_
              rintro e w7 ⟨rfl, hb⟩
              have B_7 := Lib.hid (B_6.out.trans (hb.mono B_6.out.size))
              clear hb X_6 B_6
              go_wp2_with fail
              refine (known6_any _).mono ?_
              rintro e w8 ⟨rfl, hb⟩
              have B_8 := Lib.hid (B_7.out.trans (hb.mono B_7.out.size))
              clear hb B_7
              go_wp2
              go_ret
              exact ⟨rfl, B_8.out⟩
          · have t1 : decide ((m : Int) < p) = false := decide_eq_false (by omega)
            have t1' : decide (m < p) = false := decide_eq_false (by omega)
            have t2 : decide ((q : Int) < m) = false := decide_eq_false (by omega)
            have t2' : decide (q < m) = false := decide_eq_false (by omega)
            clear bL bR
            generalize posV l m 0 = a1 at *
            generalize posV l m 1 = a2 at *
            by_cases u3 : m < s.length
            · generalize hkp : keptP m (runsT false l) = z at *
              cases z with
              | some j =>
                have HK := Lib.hid ((keptL P2.out false _ _).1 hkp)
                clear hkp
                obtain ⟨k1, k2⟩ := kept_at P1.out (show (0 : Int) ≤ (m : Int) by omega) (show (m : Int) < inL l by have := P3.out; omega)
                have cK := CK.out
                simp only [keptV_some k1 (k2.trans ((keptL P2.out false _ _).2 HK.out))] at cK
                obtain ⟨ia, ib, ja, jb, ea, eb, ee⟩ := OK.out _ _ HK.out
                obtain rfl : m = ia := by omega
                subst eb
                clear HK
                have hgT : ∀ h, (⟨T.toArray⟩ : ByteArray)[ib]'h = s[m] := fun _ => ee
                have hgS : ∀ h, (⟨s.toArray⟩ : ByteArray)[m]'h = s[m] := fun _ => rfl
                have jz : decide ((ib : Int) < 0) = false := decide_eq_false (by omega)
                have jc : decide ((T.length : Int) ≤ ib) = false := decide_eq_false (by omega)
                have jc' : decide (T.length ≤ ib) = false := decide_eq_false (by omega)
                have jd : (ib : Int) < T.length := by omega
                have ja' : (m : Int) < s.length := by omega
                clear k1 k2 CK OK ea ee P1 P2 P3 P5 O6 O7 R2 R3 R4 R5
                go_wp2_with fail
                refine (cB _ _ H_4d.out).mono ?_
                rintro e w5 ⟨rfl, hb⟩
                have H_5 := Lib.hid (H_4d.out.ext hb)
                have B_5 := Lib.hid (B_4d.out.trans (hb.mono B_4d.out.size))
                clear hb H_4d B_4d
                go_wp2_with fail
                refine (cOwn.out _ _ H_5.out).mono ?_
                rintro e w6 ⟨z5, rfl, ho, hb⟩
                have X_6 := Lib.hid (Sl.of_own ho)
                have B_6 := Lib.hid (B_5.out.trans (hb.mono B_5.out.size))
                clear hb ho H_5 B_5
                go_wp2_with fail
                refine (cK _ _ X_6.out).mono ?_
                rintro e w7 ⟨rfl, hb⟩
                have B_7 := Lib.hid (B_6.out.trans (hb.mono B_6.out.size))
                clear hb X_6 B_6
                go_wp2_with fail
                go_quiet (fail)
                have B_7d := Lib.hid (below_drewN B_7.out nq)
                generalize w7.drewN nq = w7d at *
                clear B_7 nq
                go_wp2_with fail
                refine (known6_any _).mono ?_
                rintro e w8 ⟨rfl, hb⟩
                have B_8 := Lib.hid (B_7d.out.trans (hb.mono B_7d.out.size))
                clear hb B_7d
                go_wp2
                go_ret
                exact ⟨rfl, B_8.out⟩
              | none =>
                have u4 : m < q := Classical.byContradiction fun hc => by
                  have := (keptL P2.out false _ _).2 (O7.out m (by omega) (by omega))
                  rw [hkp] at this
                  cases this
                have HN := hkp
                clear hkp
                have t4 : decide ((q : Int) ≤ m) = false := decide_eq_false (by omega)
                have t4' : decide (q ≤ m) = false := decide_eq_false (by omega)
                obtain ⟨k1, k2⟩ := kept_at P1.out (show (0 : Int) ≤ (m : Int) by omega) (show (m : Int) < inL l by have := P3.out; omega)
                have cK := CK.out
                simp only [keptV_none k1 (k2.trans HN)] at cK
                have ja' : (m : Int) < s.length := by omega
                clear k1 k2 CK OK HN P1 P2 P3 P5 O6 O7 R2 R3 R4 R5
                go_wp2_with fail
                refine (cB _ _ H_4d.out).mono ?_
                rintro e w5 ⟨rfl, hb⟩
                have H_5 := Lib.hid (H_4d.out.ext hb)
                have B_5 := Lib.hid (B_4d.out.trans (hb.mono B_4d.out.size))
                clear hb H_4d B_4d
                go_wp2_with fail
                refine (cOwn.out _ _ H_5.out).mono ?_
                rintro e w6 ⟨z5, rfl, ho, hb⟩
                have X_6 := Lib.hid (Sl.of_own ho)
                have B_6 := Lib.hid (B_5.out.trans (hb.mono B_5.out.size))
                clear hb ho H_5 B_5
                go_wp2_with fail
                refine (cK _ _ X_6.out).mono ?_
                rintro e w7 ⟨rfl, hb⟩
                have B_7 := Lib.hid (B_6.out.trans (hb.mono B_6.out.size))
                clear hb X_6 B_6
                go_wp2_with fail
                go_quiet (fail)
                have B_7d := Lib.hid (below_drewN B_7.out nq)
                generalize w7.drewN nq = w7d at *
                clear B_7 nq
                go_wp2_with fail
                refine (known6_any _).mono ?_
                rintro e w8 ⟨rfl, hb⟩
                have B_8 := Lib.hid (B_7d.out.trans (hb.mono B_7d.out.size))
                clear hb B_7d
                go_wp2
                go_ret
                exact ⟨rfl, B_8.out⟩
            · have cK := CK.out
              unfold keptV at cK
              generalize optV (keptR l m) = y1 at cK
              generalize (keptR l m).isSome = y2 at cK
              generalize keptE l m = y3 at cK
              have ja' : ¬ (m : Int) < s.length := by omega
              clear CK OK P1 P2 P3 P5 O6 O7 R2 R3 R4 R5
              go_wp2_with fail
              refine (cB _ _ H_4d.out).mono ?_
              rintro e w5 ⟨rfl, hb⟩
              have H_5 := Lib.hid (H_4d.out.ext hb)
              have B_5 := Lib.hid (B_4d.out.trans (hb.mono B_4d.out.size))
              clear hb H_4d B_4d
              go_wp2_with fail
              refine (cOwn.out _ _ H_5.out).mono ?_
              rintro e w6 ⟨z5, rfl, ho, hb⟩
              have X_6 := Lib.hid (Sl.of_own ho)
              have B_6 := Lib.hid (B_5.out.trans (hb.mono B_5.out.size))
              clear hb ho H_5 B_5
              go_wp2_with fail
              refine (cK _ _ X_6.out).mono ?_
              rintro e w7 ⟨rfl, hb⟩
              have B_7 := Lib.hid (B_6.out.trans (hb.mono B_6.out.size))
              clear hb X_6 B_6
              go_wp2_with fail
              refine (known6_any _).mono ?_
              rintro e w8 ⟨rfl, hb⟩
              have B_8 := Lib.hid (B_7.out.trans (hb.mono B_7.out.size))
              clear hb B_7
              go_wp2
              go_ret
              exact ⟨rfl, B_8.out⟩
  · have hb : (fitE s l != 0) = true := by simpa using h0
    generalize applyS s l = T at *
    generalize fitE s l = E at *
    have CA := Lib.hid cA
    clear cA h hd hl h0 hs hs'
    go_enter Try.func20, Try.ntmps20
    go_wp2_with fail
    refine (cOwn.out _ _ H.out).mono ?_
    rintro e w1 ⟨x0, rfl, ho, hb⟩
    have X_1 := Lib.hid (Sl.of_own ho)
    have B_1 := Lib.hid hb
    clear hb ho H
    go_wp2_with fail
    refine (CA.out _ _ X_1.out).mono ?_
    rintro e w2 ⟨rfl, hb⟩
    have B_2 := Lib.hid (B_1.out.trans (hb.mono B_1.out.size))
    clear hb X_1 B_1
    go_wp2_with fail
    refine (known6_any _).mono ?_
    rintro e w3 ⟨rfl, hb⟩
    have B_3 := Lib.hid (B_2.out.trans (hb.mono B_2.out.size))
    clear hb B_2
    go_wp2
    go_ret
    exact ⟨rfl, B_3.out⟩

end Go.Proofs.Ytpbnciioeiohlaa