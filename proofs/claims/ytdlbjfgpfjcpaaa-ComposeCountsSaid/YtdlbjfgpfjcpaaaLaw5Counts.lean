/- quartolaw05.ComposeCounts returns true: the walk. -/
import Derived.Test.YtdlbjfgpfjcpaaaCounts
namespace Go.Proofs.Ytdlbjfgpfjcpaaa
open Go.RowKit

set_option maxHeartbeats 4000000 in
set_option maxRecDepth 100000 in
theorem lawComposeCounts_any (v : Value) (l : List Pc) (v' : Value) (l' : List Pc) (w : World) (h : Sl pcE w v l) (hd : ∀ p, p ∈ l → p.wf) (hl : l.length * 32 ≤ 140737488355328) (h' : Sl pcE w v' l') (hd' : ∀ p, p ∈ l' → p.wf) (hl' : l'.length * 32 ≤ 140737488355328) :
    Calls Try.prog 8 #[v, v'] w fun e w' => e = .returned (.bool true) ∧ Below w.heap.size w w' := by
  have cA := Lib.hid fun w x h => own5_any x l w h hl
  have cB := Lib.hid fun w x h => own5_any x l' w h hl'
  have c1 := fun w x y h k => compose_any x y l l' w h k hd hd'
  have H := Lib.hid h; have K := Lib.hid h'
  by_cases h0 : cmpE l l' = 0
  · obtain ⟨e1, e2, e3, e4⟩ := cmpE_ok h0
    obtain ⟨k1, k2, k3, k4, k5, k6⟩ := counts_ok h0
    have eR := (cmpR_ok h0).2.1
    have cK := Lib.hid fun w x h => counts_any x l w h e1
    have cL := Lib.hid fun w x h => counts_any x l' w h e2
    have cM := Lib.hid fun w x h => counts_any x (cmpR l l') w h eR
    have b1 := kN_take e1 l.length
    have b2 := kN_take e2 l'.length
    have b3 := kN_take eR (cmpR l l').length
    rw [List.take_length] at b1 b2 b3
    rw [h0] at c1
    have C1 := Lib.hid c1
    clear c1 h0 e1 e2 e3 e4 eR h h' hd hd' hl hl'
    generalize cmpR l l' = R at *
    generalize kN l = ka at *
    generalize iN l = ia at *
    generalize rN l = ra at *
    generalize kN l' = kb at *
    generalize iN l' = ib at *
    generalize rN l' = rb at *
    generalize kN R = k at *
    generalize iN R = i at *
    generalize rN R = r at *
    have w1 : IntKind.i64.wrap (ia + ib) = ia + ib := IntWalk.i64_in _ (by omega)
    have w2 : IntKind.i64.wrap (ra + rb) = ra + rb := IntWalk.i64_in _ (by omega)
    have w3 : IntKind.i64.wrap (k + r) = k + r := IntWalk.i64_in _ (by omega)
    have w4 : IntKind.i64.wrap (ka + ra) = ka + ra := IntWalk.i64_in _ (by omega)
    have w5 : IntKind.i64.wrap (k + i) = k + i := IntWalk.i64_in _ (by omega)
    have w6 : IntKind.i64.wrap (kb + ib) = kb + ib := IntWalk.i64_in _ (by omega)
    have d1 : decide (k ≤ ka) = true := decide_eq_true k1
    have d2 : decide (k ≤ kb) = true := decide_eq_true k2
    have d3 : decide (i ≤ ia + ib) = true := decide_eq_true k3
    have d4 : decide (r ≤ ra + rb) = true := decide_eq_true k4
    have d5 : (k + r == ka + ra) = true := by rw [k5]; simp
    have d6 : (k + i == kb + ib) = true := by rw [k6]; simp
    clear k5 k6 b1 b2 b3
    go_enter Try.func8, Try.ntmps8
    go_wp2_with fail
    refine (cA.out _ _ H.out).mono ?_
    rintro e w1 ⟨x0, rfl, ho, hb⟩
    have H_1 := Lib.hid (H.out.ext hb)
    have K_1 := Lib.hid (K.out.ext hb)
    have X_1 := Lib.hid (Sl.of_own ho)
    have B_1 := Lib.hid hb
    clear hb ho H K
    go_wp2_with fail
    refine (cB.out _ _ K_1.out).mono ?_
    rintro e w2 ⟨x1, rfl, ho, hb⟩
    have H_2 := Lib.hid (H_1.out.ext hb)
    have K_2 := Lib.hid (K_1.out.ext hb)
    have X_2 := Lib.hid (X_1.out.ext hb)
    have Y_2 := Lib.hid (Sl.of_own ho)
    have B_2 := Lib.hid (B_1.out.trans (hb.mono B_1.out.size))
    clear hb ho H_1 K_1 X_1 B_1
    go_wp2_with fail
    refine (C1.out _ _ _ X_2.out Y_2.out).mono ?_
    rintro e w3 ⟨va, rfl, ho, hb⟩
    have H_3 := Lib.hid (H_2.out.ext hb)
    have K_3 := Lib.hid (K_2.out.ext hb)
    have R_3 := Lib.hid (Sl.of_own ho)
    have B_3 := Lib.hid (B_2.out.trans (hb.mono B_2.out.size))
    clear hb ho X_2 Y_2 H_2 K_2 B_2
    go_wp2_with fail
    refine (cK.out _ _ H_3.out).mono ?_
    rintro e w4 ⟨rfl, hb⟩
    have K_4 := Lib.hid (K_3.out.ext hb)
    have R_4 := Lib.hid (R_3.out.ext hb)
    have B_4 := Lib.hid (B_3.out.trans (hb.mono B_3.out.size))
    clear hb H_3 K_3 R_3 B_3
    go_wp2_with fail
    refine (cL.out _ _ K_4.out).mono ?_
    rintro e w5 ⟨rfl, hb⟩
    have R_5 := Lib.hid (R_4.out.ext hb)
    have B_5 := Lib.hid (B_4.out.trans (hb.mono B_4.out.size))
    clear hb K_4 R_4 B_4
    go_wp2_with fail
    refine (cM.out _ _ R_5.out).mono ?_
    rintro e w6 ⟨rfl, hb⟩
    have B_6 := Lib.hid (B_5.out.trans (hb.mono B_5.out.size))
    clear hb R_5 B_5
    go_wp2_with fail
    refine (known5_any _).mono ?_
    rintro e w7 ⟨rfl, hb⟩
    have B_7 := Lib.hid (B_6.out.trans (hb.mono B_6.out.size))
    clear hb B_6
    go_wp2
    go_ret
    exact ⟨rfl, B_7.out⟩
  · have hb : (cmpE l l' != 0) = true := by simpa using h0
    generalize cmpR l l' = R at *
    generalize cmpE l l' = E at *
    have C1 := Lib.hid c1
    clear c1 h0 h h' hd hd' hl hl'
    go_enter Try.func8, Try.ntmps8
    go_wp2_with fail
    refine (cA.out _ _ H.out).mono ?_
    rintro e w1 ⟨x0, rfl, ho, hb⟩
    have K_1 := Lib.hid (K.out.ext hb)
    have X_1 := Lib.hid (Sl.of_own ho)
    have B_1 := Lib.hid hb
    clear hb ho H K
    go_wp2_with fail
    refine (cB.out _ _ K_1.out).mono ?_
    rintro e w2 ⟨x1, rfl, ho, hb⟩
    have X_2 := Lib.hid (X_1.out.ext hb)
    have Y_2 := Lib.hid (Sl.of_own ho)
    have B_2 := Lib.hid (B_1.out.trans (hb.mono B_1.out.size))
    clear hb ho K_1 X_1 B_1
    go_wp2_with fail
    refine (C1.out _ _ _ X_2.out Y_2.out).mono ?_
    rintro e w3 ⟨va, rfl, ho, hb⟩
    have B_3 := Lib.hid (B_2.out.trans (hb.mono B_2.out.size))
    clear hb ho X_2 Y_2 B_2
    go_wp2_with fail
    refine (known5_any _).mono ?_
    rintro e w4 ⟨rfl, hb⟩
    have B_4 := Lib.hid (B_3.out.trans (hb.mono B_3.out.size))
    clear hb B_3
    go_wp2
    go_ret
    exact ⟨rfl, B_4.out⟩

end Go.Proofs.Ytdlbjfgpfjcpaaa