/- quartoref06.Range and Kept: what they return. Condition: the pieces and numbers read as values of their types. -/
import Derived.Test.YtpbnciioeiohlaaRef6b
namespace Go.Proofs.Ytpbnciioeiohlaa
open Go.RowKit

set_option maxHeartbeats 2000000 in
set_option maxRecDepth 100000 in
theorem refRange_any (v : Value) (l : List Pc) (x y : Int) (w : World) (h : Sl pcE w v l) (hd : ∀ p, p ∈ l → p.wf) :
    Calls Try.prog 50 #[v, .int .i64 x, .int .i64 y] w fun e w' => e = .returned (.tuple #[.int .i64 (rngA l x y), .int .i64 (rngB l x y), .int .i64 (rngE l x y)]) ∧ Below w.heap.size w w' := by
  have hc := refLengths_any v l w h hd
  by_cases h0 : errL l = 0
  · rw [lensV_ok h0] at hc
    obtain ⟨m1, m2, m3, m4⟩ := mod_io h0
    by_cases h1 : x < 0 ∨ y < x ∨ inL l < y
    · have e1 : rngE l x y = 3 := by rw [rngE, if_pos h0, if_pos h1]
      have e2 : rngA l x y = 0 := by rw [rngA, e1, if_neg (by omega)]
      have e3 : rngB l x y = 0 := by rw [rngB, e1, if_neg (by omega)]
      have Hc := Lib.hid hc; have E1 := Lib.hid e1; have E2 := Lib.hid e2; have E3 := Lib.hid e3
      clear hc e1 e2 e3 h h0 hd
      generalize inL l = n at *
      generalize outL l = m at *
      by_cases h2 : x < 0
      · clear h1
        go_enter Try.func50, Try.ntmps50
        go_wp2_with fail
        refine (Hc.out).mono ?_
        rintro e w1 ⟨rfl, hb1⟩
        go_wp2
        go_ret3
        exact ⟨by rw [E1.out, E2.out, E3.out]; rfl, hb1⟩
      · by_cases h3 : y < x
        · clear h1
          go_enter Try.func50, Try.ntmps50
          go_wp2_with fail
          refine (Hc.out).mono ?_
          rintro e w1 ⟨rfl, hb1⟩
          go_wp2
          go_ret3
          exact ⟨by rw [E1.out, E2.out, E3.out]; rfl, hb1⟩
        · have h4 : n < y := by omega
          clear h1
          go_enter Try.func50, Try.ntmps50
          go_wp2_with fail
          refine (Hc.out).mono ?_
          rintro e w1 ⟨rfl, hb1⟩
          go_wp2
          go_ret3
          exact ⟨by rw [E1.out, E2.out, E3.out]; rfl, hb1⟩
    · have e1 : rngE l x y = 0 := by rw [rngE, if_pos h0, if_neg h1]
      have e2 : rngA l x y = min (rightP x (outL l) (runsT false l)) (leftP y 0 (runsT false l)) := by rw [rngA, e1, if_pos rfl]
      have e3 : rngB l x y = leftP y 0 (runsT false l) := by rw [rngB, e1, if_pos rfl]
      have cL := fun w h => refMove_any v l y 0 w h h0 (.inl rfl) (by omega) (by omega)
      have cR := fun w h => refMove_any v l x 1 w h h0 (.inr rfl) (by omega) (by omega)
      rw [if_pos rfl] at cL
      rw [if_neg (by omega)] at cR
      generalize leftP y 0 (runsT false l) = L at *
      generalize rightP x (outL l) (runsT false l) = R at *
      have g1 : ¬ x < 0 := by omega
      have g2 : ¬ y < x := by omega
      have g3 : ¬ inL l < y := by omega
      have Hc := Lib.hid hc; have E1 := Lib.hid e1; have E2 := Lib.hid e2; have E3 := Lib.hid e3; have CL := Lib.hid cL; have CR := Lib.hid cR; have H := Lib.hid h
      clear hc e1 e2 e3 h h0 hd cL cR h1
      generalize inL l = n at *
      generalize outL l = m at *
      go_enter Try.func50, Try.ntmps50
      go_wp2_with fail
      refine (Hc.out).mono ?_
      rintro e w1 ⟨rfl, hb1⟩
      have H1 := Lib.hid (H.out.ext hb1)
      have hB1 := Lib.hid hb1
      clear hb1
      go_wp2_with fail
      refine (CL.out _ H1.out).mono ?_
      rintro e w2 ⟨rfl, hb2⟩
      have H2 := Lib.hid (H1.out.ext hb2)
      have hB2 := Lib.hid (hB1.out.trans (hb2.mono hB1.out.size))
      clear hb2
      go_wp2_with fail
      refine (CR.out _ H2.out).mono ?_
      rintro e w3 ⟨rfl, hb3⟩
      have hB3 := Lib.hid (hB2.out.trans (hb3.mono hB2.out.size))
      clear hb3
      by_cases hm : R ≤ L
      · have hmin : min R L = R := by omega
        have Hm := Lib.hid hmin; clear hmin
        go_wp2
        go_ret3
        exact ⟨by rw [E1.out, E2.out, E3.out, Hm.out]; rfl, hB3.out⟩
      · have hmin : min R L = L := by omega
        have Hm := Lib.hid hmin; clear hmin
        go_wp2
        go_ret3
        exact ⟨by rw [E1.out, E2.out, E3.out, Hm.out]; rfl, hB3.out⟩
  · have hl := lens_err h0
    have e1 : rngE l x y = errL l := by rw [rngE, if_neg h0]
    have e2 : rngA l x y = 0 := by rw [rngA, e1, if_neg h0]
    have e3 : rngB l x y = 0 := by rw [rngB, e1, if_neg h0]
    have hb : (errL l != 0) = true := by simpa using h0
    rw [show lensV l = .tuple #[.int .i64 0, .int .i64 0, .int .i64 (errL l)] by unfold lensV; rw [hl]; rfl] at hc
    generalize errL l = E at *
    have Hc := Lib.hid hc; have E1 := Lib.hid e1; have E2 := Lib.hid e2; have E3 := Lib.hid e3
    clear hc e1 e2 e3 h hd hl h0
    go_enter Try.func50, Try.ntmps50
    go_wp2_with fail
    refine (Hc.out).mono ?_
    rintro e w1 ⟨rfl, hb1⟩
    go_wp2
    go_ret3
    exact ⟨by rw [E1.out, E2.out, E3.out]; rfl, hb1⟩

set_option maxHeartbeats 2000000 in
set_option maxRecDepth 100000 in
theorem refKept_any (v : Value) (l : List Pc) (x : Int) (w : World) (h : Sl pcE w v l) (hd : ∀ p, p ∈ l → p.wf) :
    Calls Try.prog 48 #[v, .int .i64 x] w fun e w' => e = .returned (keptV l x) ∧ Below w.heap.size w w' := by
  have hc := refLengths_any v l w h hd
  by_cases h0 : errL l = 0
  · rw [lensV_ok h0] at hc
    obtain ⟨m1, m2, m3, m4⟩ := mod_io h0
    by_cases h1 : x < 0 ∨ inL l ≤ x
    · have e1 : keptE l x = 3 := by rw [keptE, if_pos h0, if_pos h1]
      have e2 : keptR l x = none := by rw [keptR, e1, if_neg (by omega)]
      have hkv : keptV l x = .tuple #[.int .i64 0, .bool false, .int .i64 3] := by rw [keptV, e1, e2]; rfl
      have Hkv := Lib.hid hkv; have Hc := Lib.hid hc
      clear hc e1 e2 hkv h0 hd h
      generalize inL l = n at *
      by_cases h2 : x < 0
      · go_enter Try.func48, Try.ntmps48
        go_wp2_with fail
        refine (Hc.out).mono ?_
        rintro e w1 ⟨rfl, hb⟩
        go_wp2
        go_ret3
        exact ⟨by rw [Hkv.out]; rfl, hb⟩
      · have h3 : n ≤ x := by omega
        clear h1
        go_enter Try.func48, Try.ntmps48
        go_wp2_with fail
        refine (Hc.out).mono ?_
        rintro e w1 ⟨rfl, hb⟩
        go_wp2
        go_ret3
        exact ⟨by rw [Hkv.out]; rfl, hb⟩
    · have e1 : keptE l x = 0 := by rw [keptE, if_pos h0, if_neg h1]
      have e2 : keptR l x = keptP x (runsT false l) := by rw [keptR, e1, if_pos rfl]
      have hm := mod_of h0
      have cR := fun w h => refRuns_any v l w h hm
      have hok := runs_ok hm false
      have hle := runs_le hm
      generalize hxs : runsT false l = xs at *
      have hkv : keptV l x = .tuple #[.int .i64 (optV (keptP x xs)), .bool (keptP x xs).isSome, .int .i64 0] := by rw [keptV, e1, e2]
      have g1 : ¬ x < 0 := by omega
      have g2 : ¬ inL l ≤ x := by omega
      have Hkv := Lib.hid hkv; have CR := Lib.hid cR; have Hok := Lib.hid hok; have Hc := Lib.hid hc; have H := Lib.hid h
      clear hkv cR hok hm hxs hc h e1 e2 h0 h1 hd
      generalize inL l = n at *
      generalize outL l = m at *
      go_enter Try.func48, Try.ntmps48
      go_wp2_with fail
      refine (Hc.out).mono ?_
      rintro e w1 ⟨rfl, hb⟩
      have H1 := Lib.hid (H.out.ext hb); have B1 := Lib.hid hb
      clear hb
      go_wp2_with fail
      refine (CR.out _ H1.out).mono ?_
      rintro e w2 ⟨v2, rfl, ho, hb⟩
      have S2 := Lib.hid (Sl.of_own ho); have B2 := Lib.hid (B1.out.trans (hb.mono B1.out.size))
      clear ho hb
      obtain ⟨A2, c2, rfl, hq2, hq3, -⟩ := id S2.out
      unfold maxLen at hq3
      go_wp2_with fail
      go_loopw [11] (fun i wr => ∃ k : Nat, k ≤ xs.length ∧ i = .int .i64 k ∧ Hid (keptP x xs = keptP x (xs.drop k)) ∧ Hid (Below w2.heap.size w2 wr)) (fun i _ => xs.length - (intOf i).toNat)
      case atStart => exact ⟨0, by omega, rfl, Lib.hid rfl, Lib.hid (Below.refl _ _)⟩
      case round =>
        obtain ⟨k, hk, rfl, hL, hB⟩ := hrel
        have hBB := Lib.hid (B2.out.trans (hB.out.mono B2.out.size))
        by_cases hlt : k < xs.length
        · obtain ⟨b, off, cap', hv, hb, hcells⟩ := S2.out.rn hlt
          obtain ⟨rfl, rfl⟩ : A2 = some ⟨b, off, none⟩ ∧ c2 = cap' := by injection hv with e1 e2 e3; exact ⟨e1, e3⟩
          obtain ⟨c0, c1, c2⟩ := hcells _ hB.out
          have hbw : b < wr.heap.size := Nat.lt_of_lt_of_le hb hB.out.size
          obtain ⟨r1, r2, r3, r4, r5, r6⟩ := Hok.out xs[k] (List.getElem_mem hlt)
          have hst := kept_step x xs k hlt
          have hi1 : (0 : Int) ≤ (k : Int) := by omega
          have hi2 : (k : Int) < (xs.length : Int) := by omega
          clear hv hcells
          generalize xs[k] = r at *
          have hs1 : IntKind.i64.wrap (r.a + r.n) = r.a + r.n := IntWalk.i64_in _ (by omega)
          have hs2 : IntKind.i64.wrap (r.o + x) = r.o + x := IntWalk.i64_in _ (by omega)
          have hs3 : IntKind.i64.wrap (r.o + x - r.a) = r.o + x - r.a := IntWalk.i64_in _ (by omega)
          have Hst := Lib.hid hst; clear hst
          by_cases hx : r.a ≤ x
          · by_cases hy : x < r.a + r.n
            · have hL' : keptP x xs = some (r.o + x - r.a) := by rw [hL.out, Hst.out, if_pos ⟨hx, hy⟩]
              have HL := Lib.hid hL'; clear hL'
              go_wp2_with fail
              go_quiet (fail)
              go_wp2_with fail
              go_quiet (fail)
              go_wp2
              go_ret3
              exact ⟨by rw [Hkv.out, HL.out]; rfl, below_drewN (below_drewN hBB.out _) _⟩
            · have hL' : keptP x xs = keptP x (xs.drop (k + 1)) := by rw [hL.out, Hst.out, if_neg (by omega)]
              have HL := Lib.hid hL'; clear hL'
              go_wp2_with fail
              go_quiet (fail)
              go_wp2
              go_roundw
              case rel => exact ⟨k + 1, by omega, by go_num, HL, Lib.hid (below_drewN hB.out _)⟩
              case measure => simp [intOf]; omega
          · have hL' : keptP x xs = keptP x (xs.drop (k + 1)) := by rw [hL.out, Hst.out, if_neg (by omega)]
            have HL := Lib.hid hL'; clear hL'
            have hx' : decide (r.a ≤ x) = false := by simpa using hx
            clear hx
            go_wp2_with fail
            go_quiet (fail)
            go_wp2
            go_roundw
            case rel => exact ⟨k + 1, by omega, by go_num, HL, Lib.hid (below_drewN hB.out _)⟩
            case measure => simp [intOf]; omega
        · have hL' : keptP x xs = none := by rw [hL.out, List.drop_eq_nil_of_le (by omega)]; rfl
          have HL := Lib.hid hL'; clear hL'
          go_wp2
          go_ret3
          exact ⟨by rw [Hkv.out, HL.out]; rfl, hBB.out⟩
  · have hl := lens_err h0
    have e1 : keptE l x = errL l := by rw [keptE, if_neg h0]
    have e2 : keptR l x = none := by rw [keptR, e1, if_neg h0]
    have hkv : keptV l x = .tuple #[.int .i64 0, .bool false, .int .i64 (errL l)] := by rw [keptV, e1, e2]; rfl
    have hb : (errL l != 0) = true := by simpa using h0
    rw [show lensV l = .tuple #[.int .i64 0, .int .i64 0, .int .i64 (errL l)] by unfold lensV; rw [hl]; rfl] at hc
    generalize errL l = E at *
    have Hkv := Lib.hid hkv; have Hc := Lib.hid hc
    clear hc e1 e2 hkv h0 hd h hl
    go_enter Try.func48, Try.ntmps48
    go_wp2_with fail
    refine (Hc.out).mono ?_
    rintro e w1 ⟨rfl, hb1⟩
    go_wp2
    go_ret3
    exact ⟨by rw [Hkv.out]; rfl, hb1⟩

end Go.Proofs.Ytpbnciioeiohlaa
