/- quartolaw09.MarkChecks returns true: the walk. -/
import Derived.Test.YtibmnkdeepmabaaKnown9
namespace Go.Proofs.Ytibmnkdeepmabaa
open Go.RowKit

set_option maxHeartbeats 8000000 in
set_option maxRecDepth 100000 in
theorem lawMarkChecks_any (n : Int) (v : Value) (l : List Mk) (w : World) (_hn : -9223372036854775808 ≤ n) (_hn' : n ≤ 9223372036854775807) (h : Sl mkE w v l) (hd : ∀ m, m ∈ l → m.wf) (hl : l.length * 24 ≤ 140737488355328) :
    Calls Try.prog 3 #[.int .i64 n, v] w fun e w' => e = .returned (.bool true) ∧ Below w.heap.size w w' := by
  have cO := fun w x h => own9_any x l w h hl
  have cC := fun w x h => mcheck_any n x l w h hd
  have cR := fun w x h => refCheck9_any n x l w h hd
  have cS := fun w x y h k => same9_any x y l l w h k
  rw [sameM_refl] at cS
  generalize chkM n l = E at *
  have H := Lib.hid h; have CO := Lib.hid cO; have CC := Lib.hid cC; have CR := Lib.hid cR; have CS := Lib.hid cS
  clear cO cC cR cS h hd hl
  go_enter Try.func3, Try.ntmps3
  go_wp2_with fail
  refine (CO.out _ _ H.out).mono ?_
  rintro e w1 ⟨x0, rfl, ho, hb⟩
  have H_1 := Lib.hid (H.out.ext hb)
  have X_1 := Lib.hid (Sl.of_own ho)
  have B_1 := Lib.hid hb
  clear hb ho H
  go_wp2_with fail
  refine (CC.out _ _ X_1.out).mono ?_
  rintro e w2 ⟨rfl, hb⟩
  have H_2 := Lib.hid (H_1.out.ext hb)
  have X_2 := Lib.hid (X_1.out.ext hb)
  have B_2 := Lib.hid (B_1.out.trans (hb.mono B_1.out.size))
  clear hb H_1 X_1 B_1
  go_wp2_with fail
  refine (CR.out _ _ H_2.out).mono ?_
  rintro e w3 ⟨rfl, hb⟩
  have H_3 := Lib.hid (H_2.out.ext hb)
  have X_3 := Lib.hid (X_2.out.ext hb)
  have B_3 := Lib.hid (B_2.out.trans (hb.mono B_2.out.size))
  clear hb H_2 X_2 B_2
  go_wp2_with fail
  refine (CS.out _ _ _ X_3.out H_3.out).mono ?_
  rintro e w4 ⟨rfl, hb⟩
  have B_4 := Lib.hid (B_3.out.trans (hb.mono B_3.out.size))
  clear hb X_3 H_3 B_3
  go_wp2_with fail
  refine (known9_any _).mono ?_
  rintro e w5 ⟨rfl, hb⟩
  have B_5 := Lib.hid (B_4.out.trans (hb.mono B_4.out.size))
  clear hb B_4
  go_wp2
  go_ret
  exact ⟨rfl, B_5.out⟩

end Go.Proofs.Ytibmnkdeepmabaa
