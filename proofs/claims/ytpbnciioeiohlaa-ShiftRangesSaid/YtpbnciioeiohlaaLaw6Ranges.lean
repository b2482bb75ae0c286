/- quartolaw06.ShiftRanges returns true: the walk. -/
import Derived.Test.YtpbnciioeiohlaaKnown6
namespace Go.Proofs.Ytpbnciioeiohlaa
open Go.RowKit

set_option maxHeartbeats 4000000 in
set_option maxRecDepth 100000 in
theorem lawShiftRanges_any (v : Value) (l : List Pc) (x y : Int) (w : World) (h : Sl pcE w v l) (hd : ∀ p, p ∈ l → p.wf) (hl : l.length * 32 ≤ 140737488355328) (_hx : -9223372036854775808 ≤ x) (_hx' : x ≤ 9223372036854775807) (_hy : -9223372036854775808 ≤ y) (_hy' : y ≤ 9223372036854775807) :
    Calls Try.prog 13 #[v, .int .i64 x, .int .i64 y] w fun e w' => e = .returned (.bool true) ∧ Below w.heap.size w w' := by
  have cOwn := Lib.hid fun w x h => own6_any x l w h hl
  have c0 := fun w z h => range_any z l x y w h hd
  have c1 := fun w z h => refRange_any z l x y w h hd
  generalize rngA l x y = P at *
  generalize rngB l x y = Q at *
  generalize rngE l x y = R at *
  have C0 := Lib.hid c0
  have C1 := Lib.hid c1
  have same := Lib.hid fun v u w h k => same_any v u l l w h k
  have hs : sameB l l = true := (sameB_iff l l).2 rfl
  rw [hs] at same
  have H := Lib.hid h
  clear h hd hl hs c0 c1 
  go_enter Try.func13, Try.ntmps13
  go_wp2_with fail
  refine (cOwn.out _ _ H.out).mono ?_
  rintro e w1 ⟨x0, rfl, ho, hb⟩
  have H_1 := Lib.hid (H.out.ext hb)
  have X_1 := Lib.hid (Sl.of_own ho)
  have B_1 := Lib.hid hb
  clear hb ho H
  go_wp2_with fail
  refine (C0.out _ _ X_1.out).mono ?_
  rintro e w2 ⟨rfl, hb⟩
  have H_2 := Lib.hid (H_1.out.ext hb)
  have X_2 := Lib.hid (X_1.out.ext hb)
  have B_2 := Lib.hid (B_1.out.trans (hb.mono B_1.out.size))
  clear hb H_1 X_1 B_1
  go_wp2_with fail
  refine (C1.out _ _ H_2.out).mono ?_
  rintro e w3 ⟨rfl, hb⟩
  have H_3 := Lib.hid (H_2.out.ext hb)
  have X_3 := Lib.hid (X_2.out.ext hb)
  have B_3 := Lib.hid (B_2.out.trans (hb.mono B_2.out.size))
  clear hb H_2 X_2 B_2
  go_wp2_with fail
  refine (same.out x0 v _ X_3.out H_3.out).mono ?_
  rintro e w4 ⟨rfl, hb⟩
  have B_4 := Lib.hid (B_3.out.trans (hb.mono B_3.out.size))
  clear hb X_3 H_3 B_3
  go_wp2_with fail
  refine (known6_any _).mono ?_
  rintro e w5 ⟨rfl, hb⟩
  have B_5 := Lib.hid (B_4.out.trans (hb.mono B_4.out.size))
  clear hb B_4
  go_wp2
  go_ret
  exact ⟨rfl, B_5.out⟩

end Go.Proofs.Ytpbnciioeiohlaa
