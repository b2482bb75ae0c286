/- quartolaw07.TransformDoes returns true: the walk (the law writes into what Transform gave it). -/
import Derived.Test.YtdlbjfgpfjcpaaaRef7d
import Derived.Test.YtdlbjfgpfjcpaaaKnown7
namespace Go.Proofs.Ytdlbjfgpfjcpaaa
open Go.RowKit

set_option maxHeartbeats 8000000 in
set_option maxRecDepth 100000 in
theorem lawTransformDoes_any (v : Value) (l : List Pc) (v' : Value) (l' : List Pc) (f : Bool) (w : World) (h : Sl pcE w v l) (hd : ∀ p, p ∈ l → p.wf) (hl : l.length * 32 ≤ 140737488355328) (ht : ∀ p, p ∈ l → p.t.length ≤ 140737488355328) (h' : Sl pcE w v' l') (hd' : ∀ p, p ∈ l' → p.wf) (hl' : l'.length * 32 ≤ 140737488355328) (ht' : ∀ p, p ∈ l' → p.t.length ≤ 140737488355328) :
    Calls Try.prog 13 #[v, v', .bool f] w fun e w' => e = .returned (.bool true) ∧ Below w.heap.size w w' := by
  have cA := Lib.hid fun w x h => own7_any x l w h hl
  have cB := Lib.hid fun w x h => own7_any x l' w h hl'
  have cL := fun w h => large_any v l w h hd ht
  have cM := fun w h => large_any v' l' w h hd' ht'
  have H := Lib.hid h; have K := Lib.hid h'
  rcases A : largeB l with g1 | g1
  case true =>
    rw [A] at cL
    have CL := Lib.hid cL
    clear cL cM A h h' hd hd' hl hl' ht ht'
    go_enter Try.func13, Try.ntmps13
    go_wp2_with fail
    refine (CL.out _ H.out).mono ?_
    rintro e w1 ⟨rfl, hb⟩
    have B1 := Lib.hid hb
    clear hb
    go_wp2_with fail
    refine (known7_any _).mono ?_
    rintro e w2 ⟨rfl, hb⟩
    have B2 := Lib.hid (B1.out.trans (hb.mono B1.out.size))
    clear hb
    go_wp2
    go_ret
    exact ⟨rfl, B2.out⟩
  rw [A] at cL
  rcases A' : largeB l' with g1 | g1
  case true =>
    rw [A'] at cM
    have CL := Lib.hid cL; have CM := Lib.hid cM
    clear cL cM A A' h h' hd hd' hl hl' ht ht'
    go_enter Try.func13, Try.ntmps13
    go_wp2_with fail
    refine (CL.out _ H.out).mono ?_
    rintro e w1 ⟨rfl, hb⟩
    have B1 := Lib.hid hb
    have K1 := Lib.hid (K.out.ext hb)
    clear hb
    go_wp2_with fail
    refine (CM.out _ K1.out).mono ?_
    rintro e w1 ⟨rfl, hb⟩
    have B1 := Lib.hid (B1.out.trans (hb.mono B1.out.size))
    clear hb
    go_wp2_with fail
    refine (known7_any _).mono ?_
    rintro e w2 ⟨rfl, hb⟩
    have B2 := Lib.hid (B1.out.trans (hb.mono B1.out.size))
    clear hb
    go_wp2
    go_ret
    exact ⟨rfl, B2.out⟩
  rw [A'] at cM
  have cR := Lib.hid fun x y w h k => refTrans7_any x y l l' f w h k hd hd' (fun e => by
    obtain ⟨ea, eb, -⟩ := prE_ok e
    have := small_out A ea
    have := small_out A' eb
    have := (kN_in ((errL_iff l').1 eb).2.1)
    omega)
  have cC := Lib.hid fun x y w h k => transform_any x y l l' f w h k hd hd'
  have CL := Lib.hid cL; have CM := Lib.hid cM
  clear cL cM A A' h h' hd hd' hl hl' ht ht'
  generalize trE f l l' = E at *
  generalize trR f l l' = R at *
  go_enter Try.func13, Try.ntmps13
  go_wp2_with fail
  refine (CL.out _ H.out).mono ?_
  rintro e w1 ⟨rfl, hb⟩
  have H1 := Lib.hid (H.out.ext hb); have K1 := Lib.hid (K.out.ext hb); have B1 := Lib.hid hb
  clear hb H K CL
  go_wp2_with fail
  refine (CM.out _ K1.out).mono ?_
  rintro e w2 ⟨rfl, hb⟩
  have H2 := Lib.hid (H1.out.ext hb); have K2 := Lib.hid (K1.out.ext hb); have B2 := Lib.hid (B1.out.trans (hb.mono B1.out.size))
  clear hb H1 K1 B1 CM
  go_wp2_with fail
  refine (cA.out _ _ H2.out).mono ?_
  rintro e w3 ⟨x, rfl, ho, hb⟩
  have X3 := Lib.hid (Sl.of_own ho)
  have H3 := Lib.hid (H2.out.ext hb); have K3 := Lib.hid (K2.out.ext hb); have B3 := Lib.hid (B2.out.trans (hb.mono B2.out.size))
  clear hb ho H2 K2 B2
  go_wp2_with fail
  refine (cB.out _ _ K3.out).mono ?_
  rintro e w4 ⟨y, rfl, ho, hb⟩
  have Y4 := Lib.hid (Sl.of_own ho)
  have X4 := Lib.hid (X3.out.ext hb); have H4 := Lib.hid (H3.out.ext hb); have K4 := Lib.hid (K3.out.ext hb); have B4 := Lib.hid (B3.out.trans (hb.mono B3.out.size))
  clear hb ho H3 K3 B3 X3
  go_wp2_with fail
  refine (cR.out _ _ _ H4.out K4.out).mono ?_
  rintro e w5 ⟨z, rfl, ho, hb⟩
  have Z5 := Lib.hid (Sl.of_own ho)
  have Y5 := Lib.hid (Y4.out.ext hb); have X5 := Lib.hid (X4.out.ext hb); have H5 := Lib.hid (H4.out.ext hb); have K5 := Lib.hid (K4.out.ext hb); have B5 := Lib.hid (B4.out.trans (hb.mono B4.out.size))
  clear hb ho H4 K4 B4 X4 Y4
  go_wp2_with fail
  go_loopw [11] (fun i wr => ∃ k : Nat, k ≤ 2 ∧ i = .int .i64 k ∧ Hid (Sl pcE wr x l) ∧ Hid (Sl pcE wr y l') ∧ Hid (Sl pcE wr v l) ∧ Hid (Sl pcE wr v' l') ∧ Hid (Sl pcE wr z R) ∧ Hid (Below w.heap.size w wr)) (fun i _ => 2 - (intOf i).toNat)
  case atStart => exact ⟨0, by omega, rfl, X5, Y5, H5, K5, Z5, B5⟩
  case round =>
    obtain ⟨k, hk, rfl, X, Y, H, K, Z, B⟩ := hrel
    by_cases hlt : k < 2
    · go_wp2_with fail
      refine (cC.out x y _ X.out Y.out).mono ?_
      rintro e w4 ⟨v4, rfl, ho, hb⟩
      obtain ⟨A4, c4, rfl⟩ := own_form _ (own_zero ho)
      have G4 := Lib.hid (Sl.of_own ho)
      have O4 := Lib.hid ho
      have X4 := Lib.hid (X.out.ext hb); have Y4 := Lib.hid (Y.out.ext hb)
      have H4 := Lib.hid (H.out.ext hb); have K4 := Lib.hid (K.out.ext hb)
      have Z4 := Lib.hid (Z.out.ext hb)
      have hB := B.out.size
      have D4 := Lib.hid hb
      clear ho hb
      go_wp2_with fail
      refine (same_any _ z R R _ G4.out Z4.out).mono ?_
      rintro e w5 ⟨rfl, hb⟩
      have hz4 := D4.out.size
      have O5 := Lib.hid (own_keepB O4.out (Fr.of_below (T := fun _ => False) hb) (fun _ _ h => h))
      have X5 := Lib.hid (X4.out.ext hb); have Y5 := Lib.hid (Y4.out.ext hb)
      have H5 := Lib.hid (H4.out.ext hb); have K5 := Lib.hid (K4.out.ext hb)
      have D5 := Lib.hid (D4.out.trans (hb.mono hz4))
      clear hb G4 Z4 X4 Y4 H4 K4 D4 O4
      rw [sameB_refl R]
      go_wp2_with fail
      refine (same_any x v l l _ X5.out H5.out).mono ?_
      rintro e w6 ⟨rfl, hb⟩
      have hz5 := D5.out.size
      have O6 := Lib.hid (own_keepB O5.out (Fr.of_below (T := fun _ => False) hb) (fun _ _ h => h))
      have Y6 := Lib.hid (Y5.out.ext hb); have K6 := Lib.hid (K5.out.ext hb)
      have D6 := Lib.hid (D5.out.trans (hb.mono hz5))
      clear hb X5 H5 D5 O5 Y5 K5
      rw [sameB_refl l]
      go_wp2_with fail
      refine (same_any y v' l' l' _ Y6.out K6.out).mono ?_
      rintro e w7 ⟨rfl, hb⟩
      have hz6 := D6.out.size
      have O7 := Lib.hid (own_keepB O6.out (Fr.of_below (T := fun _ => False) hb) (fun _ _ h => h))
      have D7 := Lib.hid (D6.out.trans (hb.mono hz6))
      clear hb Y6 K6 D6 O6
      rw [sameB_refl l']
      go_wp2_with fail
      have hLm : R.length ≤ maxLen := by
        have := Z.out.len_le
        exact this
      unfold maxLen at hLm
      have hz7 := D7.out.size
      go_loopw [14] (fun j wi => ∃ (i : Nat) (ys : List Value), i ≤ R.length ∧ j = .int .i64 i ∧ Hid (wi.ownsRow wr.heap.size 31 3 (.slice A4 R.length c4) R.length ys) ∧ Hid (Below wr.heap.size wr wi)) (fun j _ => R.length - (intOf j).toNat)
      case atStart => exact ⟨0, _, by omega, rfl, O7, D7⟩
      case round =>
        obtain ⟨i, ys, hi, rfl, Oi, Di⟩ := hrel
        by_cases hil : i < R.length
        · obtain ⟨g, cap, u0, u1, u2, hv, hBg, hg, x0, x1, x2, f0, f1, f2⟩ := row_cells5 Oi.out hil
          obtain ⟨rfl, rfl⟩ : A4 = some ⟨g, 0, none⟩ ∧ c4 = cap := by injection hv with e1 e2 e3; exact ⟨e1, e3⟩
          clear hv
          go_wp2
          go_roundw
          case rel => exact ⟨i + 1, _, by omega, by go_num, Lib.hid (row_set5 (row_set5 (row_set5 Oi.out hBg _ _) hBg _ _) hBg _ _), Lib.hid (((Di.out.setCell hBg _).setCell hBg _).setCell hBg _)⟩
          case measure => simp [intOf]; omega
        · go_wp2
          go_roundw
          case rel => exact ⟨k + 1, by omega, by go_num, Lib.hid (X.out.ext Di.out), Lib.hid (Y.out.ext Di.out), Lib.hid (H.out.ext Di.out), Lib.hid (K.out.ext Di.out), Lib.hid (Z.out.ext Di.out), Lib.hid (B.out.trans (Di.out.mono hB))⟩
          case measure => simp [intOf]; omega
    · go_wp2_with fail
      refine (same_any x v l l _ X.out H.out).mono ?_
      rintro e w4 ⟨rfl, hb⟩
      have B4 := Lib.hid (B.out.trans (hb.mono B.out.size))
      have Y4 := Lib.hid (Y.out.ext hb); have K4 := Lib.hid (K.out.ext hb)
      clear hb X H B Z Y K
      rw [sameB_refl l]
      go_wp2_with fail
      refine (same_any y v' l' l' _ Y4.out K4.out).mono ?_
      rintro e w5 ⟨rfl, hb⟩
      have B5 := Lib.hid (B4.out.trans (hb.mono B4.out.size))
      clear hb Y4 K4 B4
      rw [sameB_refl l']
      go_wp2_with fail
      refine (known7_any _).mono ?_
      rintro e w6 ⟨rfl, hb⟩
      have B6 := Lib.hid (B5.out.trans (hb.mono B5.out.size))
      clear hb B5
      go_wp2
      go_ret
      exact ⟨rfl, B6.out⟩

end Go.Proofs.Ytdlbjfgpfjcpaaa
