/- quartoref06.Move, Position, Back, Kept, Range: what they return. Condition: the pieces and numbers read as values of their types. -/
import Derived.Test.YtibmnkdeepmabaaRef6
import Derived.Test.YtibmnkdeepmabaaKept
namespace Go.Proofs.Ytibmnkdeepmabaa
open Go.RowKit

theorem sizes_io {l : List Pc} (h : errL l = 0) : (sizesS l).1 = inL l ∧ (sizesS l).2 = outL l := by
  have h1 := (lens_ok h).2.1
  rw [lens_of_err h] at h1
  simp only [Prod.mk.injEq] at h1
  exact ⟨h1.1.symm, h1.2.1.symm⟩
theorem left_eq {l : List Pc} (h : Mod l) (t : Bool) (x : Int) : leftQ x 0 (runsT t l) = leftP x 0 (runsT t l) :=
  leftQ_eq x _ 0 (runsT_up h.1 t) (fun r hr => (runs_ok h t r hr).2.2.2.2.1)
theorem runs_le {l : List Pc} (h : Mod l) : (runsT false l).length ≤ 100000 := Nat.le_trans (runs_len l 0 0) h.2.1
theorem turn_eq (l : List Pc) : (runsT false l).map turnR = runsT true l := rfl

set_option maxHeartbeats 1000000 in
set_option maxRecDepth 100000 in
theorem refMove_any (v : Value) (l : List Pc) (x g : Int) (w : World) (h : Sl pcE w v l) (he : errL l = 0) (hg : g = 0 ∨ g = 1) (h0 : 0 ≤ x) (h1 : x ≤ 10000000000000) :
    Calls Try.prog 41 #[v, .int .i64 x, .int .u8 g] w fun e w' => e = .returned (.int .i64 (if g = 0 then leftP x 0 (runsT false l) else rightP x (outL l) (runsT false l))) ∧ Below w.heap.size w w' := by
  have hm := mod_of he
  have cR := fun w h => refRuns_any v l w h hm
  have cL := fun w y (h : Sl rnE w y (runsT false l)) => refLeft_any y (runsT false l) x w h (runs_ok hm false) h0 h1
  have cT := fun w y (h : Sl rnE w y (runsT false l)) => refRight_any y (runsT false l) x (outL l) w h (runs_ok hm false) h0 h1
  have cS := fun w h => refSizes_any v l w h hm.2
  rw [(sizes_io he).1, (sizes_io he).2] at cS
  simp only [left_eq hm] at cL
  have CR := Lib.hid cR; have CL := Lib.hid cL; have CT := Lib.hid cT; have CS := Lib.hid cS; have H := Lib.hid h
  clear cR cL cT cS h hm he
  rcases hg with rfl | rfl
  · rw [if_pos rfl]
    generalize leftP x 0 (runsT false l) = L at *
    go_enter Try.func41, Try.ntmps41
    go_wp2_with fail
    refine (CR.out _ H.out).mono ?_
    rintro e w1 ⟨v1, rfl, ho, hb⟩
    have S1 := Lib.hid (Sl.of_own ho); have B1 := Lib.hid hb
    clear ho hb
    go_wp2_with fail
    refine (CL.out _ _ S1.out).mono ?_
    rintro e w2 ⟨rfl, hb⟩
    have B2 := Lib.hid (B1.out.trans (hb.mono B1.out.size))
    clear hb
    go_wp2
    go_ret
    exact ⟨rfl, B2.out⟩
  · rw [if_neg (by omega)]
    generalize rightP x (outL l) (runsT false l) = L at *
    go_enter Try.func41, Try.ntmps41
    go_wp2_with fail
    refine (CS.out _ H.out).mono ?_
    rintro e w0 ⟨rfl, hb⟩
    have H0 := Lib.hid (H.out.ext hb); have B0 := Lib.hid hb
    clear hb
    go_wp2_with fail
    refine (CR.out _ H0.out).mono ?_
    rintro e w1 ⟨v1, rfl, ho, hb⟩
    have S1 := Lib.hid (Sl.of_own ho); have B1 := Lib.hid (B0.out.trans (hb.mono B0.out.size))
    clear ho hb
    go_wp2_with fail
    refine (CT.out _ _ S1.out).mono ?_
    rintro e w2 ⟨rfl, hb⟩
    have B2 := Lib.hid (B1.out.trans (hb.mono B1.out.size))
    clear hb
    go_wp2
    go_ret
    exact ⟨rfl, B2.out⟩

end Go.Proofs.Ytibmnkdeepmabaa
