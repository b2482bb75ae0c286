/- slices.rotateCmpFunc at marks, over a row of the call's own: what it leaves. Condition: the parts lie in the row, none is empty. -/
import Derived.Test.YtibmnkdeepmabaaRotP
namespace Go.Proofs.Ytibmnkdeepmabaa
open Go.RowKit Go.Sort

set_option maxHeartbeats 4000000 in
set_option maxRecDepth 100000 in
theorem rotate_any (d : Array Mk) (P0 X0 Y0 S0 : List Mk) (a m b B g N c : Nat) (w : World) (h : OwnA B g N c d w) (hl : d.toList = P0 ++ (X0 ++ (Y0 ++ S0))) (ha : P0.length = a) (hm : a + X0.length = m) (hb : m + Y0.length = b) (hx : 0 < X0.length) (hy : 0 < Y0.length) (hbN : b ≤ N) (hN : N ≤ 1000000) :
    Calls Try.prog 90 #[.slice (some ⟨g, 0, none⟩) N c, .int .i64 a, .int .i64 m, .int .i64 b, fvB] w fun e w' => e = .returned (.tuple #[]) ∧ ∃ d' : Array Mk, OwnA B g N c d' w' ∧ d'.toList = P0 ++ (Y0 ++ (X0 ++ S0)) ∧ Below B w w' := by
  have cS := fun d a b n w h h1 h2 => swapRange_any d a b n B g N c w h h1 h2 hN
  have H := Lib.hid h
  obtain ⟨T, hT⟩ : ∃ T, T = P0 ++ (Y0 ++ (X0 ++ S0)) := ⟨_, rfl⟩
  rw [← hT]
  have HL := Lib.hid hl; have HT := Lib.hid hT.symm
  obtain ⟨x0, hx0⟩ : ∃ x0, x0 = X0.length := ⟨_, rfl⟩
  obtain ⟨y0, hy0⟩ : ∃ y0, y0 = Y0.length := ⟨_, rfl⟩
  have HX := Lib.hid hx0.symm; have HY := Lib.hid hy0.symm; have HA := Lib.hid ha
  rw [← hx0] at hm hx
  rw [← hy0] at hb hy
  unfold fvB at *
  have CS := Lib.hid cS
  have e1 : (m : Int) - (a : Int) = (x0 : Int) := by omega
  have e2 : (b : Int) - (m : Int) = (y0 : Int) := by omega
  have hms := Lib.hid hm; have hbs := Lib.hid hb; have hxs := Lib.hid hx; have hys := Lib.hid hy
  clear h hl hT cS hx0 hy0 ha hm hb hx hy
  go_enter Try.func90, Try.ntmps90
  go_wp2_with fail
  clear e1 e2
  go_loopw [10, 11] (fun vi vj wr => ∃ (i j p : Nat) (D : Array Mk) (P X Y S : List Mk), vi = .int .i64 i ∧ vj = .int .i64 j ∧ Hid (1 ≤ i ∧ 1 ≤ j ∧ p + i = m ∧ m + j ≤ N ∧ P.length = p ∧ X.length = i ∧ Y.length = j) ∧ Hid (D.toList = P ++ (X ++ (Y ++ S))) ∧ Hid (P ++ (Y ++ (X ++ S)) = T) ∧ Hid (OwnA B g N c D wr) ∧ Hid (Below B w wr)) (fun vi vj _ => (intOf vi).toNat + (intOf vj).toNat)
  case atStart => exact ⟨x0, y0, a, d, P0, X0, Y0, S0, rfl, rfl, Lib.hid ⟨hxs.out, hys.out, hms.out, by have := hbs.out; omega, HA.out, HX.out, HY.out⟩, HL, HT, H, Lib.hid (Below.refl _ _)⟩
  case round =>
    clear HL HT H HX HY HA hms hbs hxs hys
    obtain ⟨i, j, p, D, P, X, Y, S, rfl, rfl, hF, hD, hG, hO, hBw⟩ := hrel
    obtain ⟨f1, f2, f3, f4, f5, f6, f7⟩ := hF.out
    have em : (m : Int) - (i : Int) = (p : Int) := by omega
    have wp : IntKind.i64.wrap (p : Int) = (p : Int) := by rw [IntKind.wrap_i64]; omega
    have wm : IntKind.i64.wrap ((m : Int) + (j : Int)) = (m : Int) + (j : Int) := by rw [IntKind.wrap_i64]; omega
    have wq : ∀ k : Nat, k ≤ 1000000 → IntKind.i64.wrap (k : Int) = (k : Int) := fun k hk => by rw [IntKind.wrap_i64]; omega
    rcases Nat.lt_trichotomy i j with q | q | q
    · have n1 : ((i : Int) != (j : Int)) = true := by simp; omega
      have n2 : decide ((j : Int) < (i : Int)) = false := decide_eq_false (by omega)
      have n2' : decide (j < i) = false := decide_eq_false (by omega)
      obtain ⟨z, hz⟩ : ∃ z, z = p + j := ⟨_, rfl⟩
      have em2 : (m : Int) + (j : Int) - (i : Int) = (z : Int) := by omega
      have em3 : (j : Int) - (i : Int) = ((j - i : Nat) : Int) := by omega
      have wz := wq z (by omega)
      have wd := wq (j - i) (by omega)
      clear wq
      obtain ⟨Y1, Y2, rfl, g1, g2⟩ : ∃ Y1 Y2, Y = Y1 ++ Y2 ∧ Y1.length = j - i ∧ Y2.length = i := ⟨Y.take (j - i), Y.drop (j - i), (List.take_append_drop _ _).symm, by rw [List.length_take]; omega, by rw [List.length_drop]; omega⟩
      have hsw := swK_list (P := P) i D X Y1 Y2 S (by rw [hD.out]; simp) f6 g2
      rw [f5, g1, show p + i + (j - i) = z by omega] at hsw
      have hcall := CS.out D p z i wr hO.out (by omega) (by omega)
      have HC := Lib.hid hcall
      have HF2 := Lib.hid (show 1 ≤ i ∧ 1 ≤ j - i ∧ p + i = m ∧ m + (j - i) ≤ N ∧ P.length = p ∧ Y2.length = i ∧ Y1.length = j - i from ⟨f1, by omega, f3, by omega, f5, g2, g1⟩)
      have HD2 := Lib.hid (show (swK D p z i).toList = P ++ (Y2 ++ (Y1 ++ (X ++ S))) from hsw)
      have HG2 := Lib.hid (show P ++ (Y1 ++ (Y2 ++ (X ++ S))) = T by rw [← hG.out]; simp)
      have q' := Lib.hid q; have f1' := Lib.hid f1
      clear hcall hsw hF hD hG hO f1 f2 f3 f4 f5 f6 f7 g1 g2 hz q
      go_wp2_with fail
      refine HC.out.mono ?_
      rintro e w2 ⟨rfl, ho, hb⟩
      have HO2 := Lib.hid ho; have HB2 := Lib.hid (hBw.out.trans hb)
      clear ho hb HC hBw
      go_wp2_with fail
      go_roundw
      case rel => exact ⟨i, j - i, p, swK D p z i, P, Y2, Y1, X ++ S, rfl, rfl, HF2, HD2, HG2, HO2, HB2⟩
      case measure => have := q'.out; have := f1'.out; simp [intOf]; omega
    · subst q
      have n1 : ((i : Int) != (i : Int)) = false := by simp
      clear wq
      have hsw := swK_list (P := P) i D X [] Y S (by rw [hD.out]; rfl) f6 f7
      rw [f5, show p + i + ([] : List Mk).length = m by simp; omega] at hsw
      have HC := Lib.hid (CS.out D p m i wr hO.out (by omega) (by omega))
      have HD2 := Lib.hid (show (swK D p m i).toList = T by rw [hsw, ← hG.out]; rfl)
      clear hsw hF hD hG hO f1 f2 f3 f4 f5 f6 f7
      go_wp2_with fail
      refine HC.out.mono ?_
      rintro e w2 ⟨rfl, ho, hb⟩
      have HO2 := Lib.hid ho; have HB2 := Lib.hid (hBw.out.trans hb)
      clear ho hb HC hBw
      go_wp2
      go_end0
      exact ⟨rfl, _, HO2.out, HD2.out, HB2.out⟩
    · have n1 : ((i : Int) != (j : Int)) = true := by simp; omega
      have n2 : decide ((j : Int) < (i : Int)) = true := decide_eq_true (by omega)
      have n2' : decide (j < i) = true := decide_eq_true (by omega)
      have em3 : (i : Int) - (j : Int) = ((i - j : Nat) : Int) := by omega
      have wd := wq (i - j) (by omega)
      clear wq
      obtain ⟨X1, X2, rfl, g1, g2⟩ : ∃ X1 X2, X = X1 ++ X2 ∧ X1.length = j ∧ X2.length = i - j := ⟨X.take j, X.drop j, (List.take_append_drop _ _).symm, by rw [List.length_take]; omega, by rw [List.length_drop]; omega⟩
      have hsw := swK_list (P := P) j D X1 X2 Y S (by rw [hD.out]; simp) g1 f7
      rw [f5, g2, show p + j + (i - j) = m by omega] at hsw
      have HC := Lib.hid (CS.out D p m j wr hO.out (by omega) (by omega))
      have HF2 := Lib.hid (show 1 ≤ i - j ∧ 1 ≤ j ∧ p + j + (i - j) = m ∧ m + j ≤ N ∧ (P ++ Y).length = p + j ∧ X2.length = i - j ∧ X1.length = j from ⟨by omega, f2, by omega, by omega, by rw [List.length_append]; omega, g2, g1⟩)
      have HD2 := Lib.hid (show (swK D p m j).toList = (P ++ Y) ++ (X2 ++ (X1 ++ S)) by rw [hsw]; simp)
      have HG2 := Lib.hid (show (P ++ Y) ++ (X1 ++ (X2 ++ S)) = T by rw [← hG.out]; simp)
      have q' := Lib.hid q; have f2' := Lib.hid f2
      clear hsw hF hD hG hO f1 f2 f3 f4 f5 f6 f7 g1 g2 q
      go_wp2_with fail
      refine HC.out.mono ?_
      rintro e w2 ⟨rfl, ho, hb⟩
      have HO2 := Lib.hid ho; have HB2 := Lib.hid (hBw.out.trans hb)
      clear ho hb HC hBw
      go_wp2_with fail
      go_roundw
      case rel => exact ⟨i - j, j, p + j, swK D p m j, P ++ Y, X2, X1, S, rfl, rfl, HF2, HD2, HG2, HO2, HB2⟩
      case measure => have := q'.out; have := f2'.out; simp [intOf]; omega

end Go.Proofs.Ytibmnkdeepmabaa
