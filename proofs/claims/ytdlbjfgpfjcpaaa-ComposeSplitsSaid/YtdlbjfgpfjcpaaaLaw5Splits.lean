/- quartolaw05.ComposeSplits returns true: the walk. -/
import Derived.Test.YtdlbjfgpfjcpaaaSplit2
import Derived.Test.YtdlbjfgpfjcpaaaRef5s
namespace Go.Proofs.Ytdlbjfgpfjcpaaa
open Go.RowKit

set_option maxHeartbeats 4000000 in
set_option maxRecDepth 100000 in
theorem refSplit_any (v : Value) (l : List Pc) (w : World) (h : Sl pcE w v l) (hd : ∀ p, p ∈ l → p.wf) :
    Calls Try.prog 34 #[v] w fun e w' => ∃ x y, e = .returned (.tuple #[x, y, .int .i64 (splE l)]) ∧ Sl pcE w' x (spX l) ∧ Sl pcE w' y (spY l) ∧ Below w.heap.size w w' := by
  by_cases h0 : errL l = 0
  · exact (refSplit_fine v l w h hd h0).mono fun e w' ⟨x, y, a, b, c, d⟩ => ⟨x, y, a, Sl.of_own b, Sl.of_own c, d⟩
  · have cA := fun w h => refLengths_any v l w h hd
    rw [lensV_bad h0] at cA
    have e : splE l = errL l := by rw [splE, if_neg h0]
    have eX : spX l = [] := by rw [spX, e, if_neg h0]
    have eY : spY l = [] := by rw [spY, e, if_neg h0]
    rw [e, eX, eY]
    have hb : (errL l != 0) = true := by simpa using h0
    generalize errL l = E at *
    have H := Lib.hid h; have CA := Lib.hid cA
    clear cA h hd h0 e eX eY
    go_enter Try.func34, Try.ntmps34
    go_wp2_with fail
    refine (CA.out _ H.out).mono ?_
    rintro e w1 ⟨rfl, hb1⟩
    have B1 := Lib.hid hb1
    clear hb1
    go_wp2
    exact bodyPost_ret (v := .tuple #[.slice none 0 0, .slice none 0 0, .int .i64 E]) (by simp [results, Try.f34, go_sem]) rfl ⟨_, _, rfl, Sl.of_own (World.ownsRow_nil w1 0 31 3), Sl.of_own (World.ownsRow_nil w1 0 31 3), B1.out⟩

set_option maxHeartbeats 4000000 in
set_option maxRecDepth 100000 in
theorem lawComposeSplits_any (v : Value) (l : List Pc) (w : World) (h : Sl pcE w v l) (hd : ∀ p, p ∈ l → p.wf) (hl : l.length * 32 ≤ 140737488355328) :
    Calls Try.prog 5 #[v] w fun e w' => e = .returned (.bool true) ∧ Below w.heap.size w w' := by
  have cOwn := Lib.hid fun w x h => own5_any x l w h hl
  have cP := fun w x h => split_any2 x l w h hd
  have cR := fun w x h => refSplit_any x l w h hd
  have H := Lib.hid h
  generalize splE l = E at *
  generalize spX l = SX at *
  generalize spY l = SY at *
  have CP := Lib.hid cP; have CR := Lib.hid cR
  clear cP cR h hd hl
  go_enter Try.func5, Try.ntmps5
  go_wp2_with fail
  refine (cOwn.out _ _ H.out).mono ?_
  rintro e w1 ⟨x0, rfl, ho, hb⟩
  have H_1 := Lib.hid (H.out.ext hb)
  have X_1 := Lib.hid (Sl.of_own ho)
  have B_1 := Lib.hid hb
  clear hb ho H
  go_wp2_with fail
  refine (CP.out _ _ X_1.out).mono ?_
  rintro e w2 ⟨va, vb, rfl, ha, hc, hb⟩
  have H_2 := Lib.hid (H_1.out.ext hb)
  have X_2 := Lib.hid (X_1.out.ext hb)
  have A_2 := Lib.hid (ha)
  have C_2 := Lib.hid (hc)
  have B_2 := Lib.hid (B_1.out.trans (hb.mono B_1.out.size))
  clear hb H_1 X_1 B_1
  clear ha hc
  go_wp2_with fail
  refine (CR.out _ _ H_2.out).mono ?_
  rintro e w3 ⟨vd, vf, rfl, ha, hc, hb⟩
  have H_3 := Lib.hid (H_2.out.ext hb)
  have X_3 := Lib.hid (X_2.out.ext hb)
  have A_3 := Lib.hid (A_2.out.ext hb)
  have C_3 := Lib.hid (C_2.out.ext hb)
  have D_3 := Lib.hid (ha)
  have F_3 := Lib.hid (hc)
  have B_3 := Lib.hid (B_2.out.trans (hb.mono B_2.out.size))
  clear hb H_2 X_2 A_2 C_2 B_2
  clear ha hc
  go_wp2_with fail
  refine (same_any _ _ SX SX _ A_3.out D_3.out).mono ?_
  rintro e w4 ⟨rfl, hb⟩
  have H_4 := Lib.hid (H_3.out.ext hb)
  have X_4 := Lib.hid (X_3.out.ext hb)
  have C_4 := Lib.hid (C_3.out.ext hb)
  have F_4 := Lib.hid (F_3.out.ext hb)
  have B_4 := Lib.hid (B_3.out.trans (hb.mono B_3.out.size))
  clear hb A_3 D_3 H_3 X_3 C_3 F_3 B_3
  rw [sameB_refl SX]
  go_wp2_with fail
  refine (same_any _ _ SY SY _ C_4.out F_4.out).mono ?_
  rintro e w5 ⟨rfl, hb⟩
  have H_5 := Lib.hid (H_4.out.ext hb)
  have X_5 := Lib.hid (X_4.out.ext hb)
  have B_5 := Lib.hid (B_4.out.trans (hb.mono B_4.out.size))
  clear hb C_4 F_4 H_4 X_4 B_4
  rw [sameB_refl SY]
  go_wp2_with fail
  refine (same_any _ _ l l _ X_5.out H_5.out).mono ?_
  rintro e w6 ⟨rfl, hb⟩
  have B_6 := Lib.hid (B_5.out.trans (hb.mono B_5.out.size))
  clear hb X_5 H_5 B_5
  rw [sameB_refl l]
  go_wp2_with fail
  refine (known5_any _).mono ?_
  rintro e w7 ⟨rfl, hb⟩
  have B_7 := Lib.hid (B_6.out.trans (hb.mono B_6.out.size))
  clear hb B_6
  go_wp2
  go_ret
  exact ⟨rfl, B_7.out⟩

end Go.Proofs.Ytdlbjfgpfjcpaaa