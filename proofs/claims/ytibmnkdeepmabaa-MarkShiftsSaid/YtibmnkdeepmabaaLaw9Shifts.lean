/- quartolaw09.MarkShifts returns true: the walk. -/
import Derived.Test.YtibmnkdeepmabaaKnown9
import Derived.Test.YtibmnkdeepmabaaMark6
namespace Go.Proofs.Ytibmnkdeepmabaa
open Go.RowKit

set_option maxHeartbeats 8000000 in
set_option maxRecDepth 100000 in
theorem lawMarkShifts_any (v : Value) (l : List Mk) (v2 : Value) (d : List Pc) (w : World) (h : Sl mkE w v l) (hd : ∀ m, m ∈ l → m.wf) (hl : l.length * 24 ≤ 140737488355328) (h2 : Sl pcE w v2 d) (hd2 : ∀ p, p ∈ d → p.wf) (hl2 : d.length * 32 ≤ 140737488355328) :
    Calls Try.prog 5 #[v, v2] w fun e w' => e = .returned (.bool true) ∧ Below w.heap.size w w' := by
  have cO := fun w x h => own9_any x l w h hl
  have cP := fun w x h => pieces9_any x d w h hl2
  have cC := fun w x y h k => shift_any x y l d w h hd k hd2
  have cR := fun w x y h k => refShift_any x y l d w h hd k hd2
  have cS := fun w x y h k => same9_any x y l l w h k
  have cS2 := fun w x y h k => same9_any x y (shR l d) (shR l d) w h k
  have cS3 := fun w x y h k => same_any x y d d w h k
  rw [sameM_refl] at cS cS2
  rw [(sameB_iff d d).2 rfl] at cS3
  generalize shE l d = E at *
  generalize shR l d = R at *
  have H := Lib.hid h; have H2 := Lib.hid h2; have CO := Lib.hid cO; have CP := Lib.hid cP; have CC := Lib.hid cC; have CR := Lib.hid cR; have CS := Lib.hid cS; have CS2 := Lib.hid cS2; have CS3 := Lib.hid cS3
  clear cO cP cC cR cS cS2 cS3 h hd hl h2 hd2 hl2
  go_enter Try.func5, Try.ntmps5
  go_wp2_with fail
  refine (CO.out _ _ H.out).mono ?_
  rintro e w1 ⟨x0, rfl, ho, hb⟩
  have H_1 := Lib.hid (H.out.ext hb)
  have H2_1 := Lib.hid (H2.out.ext hb)
  have X_1 := Lib.hid (Sl.of_own ho)
  have B_1 := Lib.hid hb
  clear hb ho H H2
  go_wp2_with fail
  refine (CP.out _ _ H2_1.out).mono ?_
  rintro e w2 ⟨x1, rfl, ho, hb⟩
  have H_2 := Lib.hid (H_1.out.ext hb)
  have H2_2 := Lib.hid (H2_1.out.ext hb)
  have X_2 := Lib.hid (X_1.out.ext hb)
  have Y_2 := Lib.hid (Sl.of_own ho)
  have B_2 := Lib.hid (B_1.out.trans (hb.mono B_1.out.size))
  clear hb ho H_1 H2_1 X_1 B_1
  go_wp2_with fail
  refine (CC.out _ _ _ X_2.out Y_2.out).mono ?_
  rintro e w3 ⟨x2, rfl, ho, hb⟩
  have H_3 := Lib.hid (H_2.out.ext hb)
  have H2_3 := Lib.hid (H2_2.out.ext hb)
  have X_3 := Lib.hid (X_2.out.ext hb)
  have Y_3 := Lib.hid (Y_2.out.ext hb)
  have R_3 := Lib.hid (Sl.of_own ho)
  have B_3 := Lib.hid (B_2.out.trans (hb.mono B_2.out.size))
  clear hb ho H_2 H2_2 X_2 Y_2 B_2
  go_wp2_with fail
  refine (CR.out _ _ _ H_3.out H2_3.out).mono ?_
  rintro e w4 ⟨x3, rfl, ho, hb⟩
  have H_4 := Lib.hid (H_3.out.ext hb)
  have H2_4 := Lib.hid (H2_3.out.ext hb)
  have X_4 := Lib.hid (X_3.out.ext hb)
  have Y_4 := Lib.hid (Y_3.out.ext hb)
  have R_4 := Lib.hid (R_3.out.ext hb)
  have Q_4 := Lib.hid (Sl.of_own ho)
  have B_4 := Lib.hid (B_3.out.trans (hb.mono B_3.out.size))
  clear hb ho H_3 H2_3 X_3 Y_3 R_3 B_3
  go_wp2_with fail
  refine (CS2.out _ _ _ R_4.out Q_4.out).mono ?_
  rintro e w5 ⟨rfl, hb⟩
  have H_5 := Lib.hid (H_4.out.ext hb)
  have H2_5 := Lib.hid (H2_4.out.ext hb)
  have X_5 := Lib.hid (X_4.out.ext hb)
  have Y_5 := Lib.hid (Y_4.out.ext hb)
  have B_5 := Lib.hid (B_4.out.trans (hb.mono B_4.out.size))
  clear hb R_4 Q_4 H_4 H2_4 X_4 Y_4 B_4
  go_wp2_with fail
  refine (CS.out _ _ _ X_5.out H_5.out).mono ?_
  rintro e w6 ⟨rfl, hb⟩
  have H2_6 := Lib.hid (H2_5.out.ext hb)
  have Y_6 := Lib.hid (Y_5.out.ext hb)
  have B_6 := Lib.hid (B_5.out.trans (hb.mono B_5.out.size))
  clear hb X_5 H_5 H2_5 Y_5 B_5
  go_wp2_with fail
  refine (CS3.out _ _ _ Y_6.out H2_6.out).mono ?_
  rintro e w7 ⟨rfl, hb⟩
  have B_7 := Lib.hid (B_6.out.trans (hb.mono B_6.out.size))
  clear hb Y_6 H2_6 B_6
  go_wp2_with fail
  refine (known9_any _).mono ?_
  rintro e w8 ⟨rfl, hb⟩
  have B_8 := Lib.hid (B_7.out.trans (hb.mono B_7.out.size))
  clear hb B_7
  go_wp2
  go_ret
  exact ⟨rfl, B_8.out⟩

end Go.Proofs.Ytibmnkdeepmabaa
