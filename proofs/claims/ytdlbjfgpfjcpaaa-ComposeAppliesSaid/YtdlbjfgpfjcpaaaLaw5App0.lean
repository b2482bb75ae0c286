/- quartolaw05.ComposeApplies returns true: the walk, where there is an error. -/
import Derived.Test.YtdlbjfgpfjcpaaaKnown5
import Derived.Test.YtdlbjfgpfjcpaaaPlainC3
namespace Go.Proofs.Ytdlbjfgpfjcpaaa
open Go.RowKit

set_option maxHeartbeats 8000000 in
set_option maxRecDepth 100000 in
theorem lawApp0 (s : List UInt8) (v : Value) (l : List Pc) (v' : Value) (l' : List Pc) (w : World) (hs : s.length ≤ 140737488351232) (h : Sl pcE w v l) (hd : ∀ p, p ∈ l → p.wf) (hl : l.length * 32 ≤ 140737488355328) (h' : Sl pcE w v' l') (hd' : ∀ p, p ∈ l' → p.wf) (hl' : l'.length * 32 ≤ 140737488355328) (h0 : fitE s l = 0) (h1 : fitE (applyS s l) l' ≠ 0) :
    Calls Try.prog 10 #[.string ⟨s.toArray⟩, v, v'] w fun e w' => e = .returned (.bool true) ∧ Below w.heap.size w w' := by
  have hs' : s.length ≤ 9223372036854775807 := by omega
  have cOA := Lib.hid fun w x h => own5_any x l w h hl
  have cOB := Lib.hid fun w x h => own5_any x l' w h hl'
  have cA := fun w x h => apply_any s x l w hs' h hd
  have H := Lib.hid h; have K := Lib.hid h'
  have hT : (applyS s l).length ≤ 9223372036854775807 := by
    have e1 := (apply_eq h0).2
    have e2 := ((errL_iff l).1 (fit_ok h0).1).2.2.2
    omega
  have cB := fun w x h => apply_any (applyS s l) x l' w hT h hd'
  have cC := fun w x y h k => compose_any x y l l' w h k hd hd'
  rw [h0] at cA
  obtain ⟨q1, q2⟩ := (cmp_fits h0).2 h1
  have hb : (fitE (applyS s l) l' != 0) = true := by simpa using h1
  rw [q1, q2] at cC
  generalize applyS (applyS s l) l' = UU at *
  generalize fitE (applyS s l) l' = E at *
  generalize applyS s l = TT at *
  have cA' := Lib.hid cA; have cB' := Lib.hid cB; have cC' := Lib.hid cC
  clear cA cB cC h0 h1 q1 q2 hT h h' hd hd' hl hl' hs hs'
  go_enter Try.func10, Try.ntmps10
  go_wp2_with fail
  refine (cOA.out _ _ H.out).mono ?_
  rintro e w1 ⟨x0, rfl, ho, hb⟩
  have H_1 := Lib.hid (H.out.ext hb)
  have K_1 := Lib.hid (K.out.ext hb)
  have X_1 := Lib.hid (Sl.of_own ho)
  have B_1 := Lib.hid hb
  clear hb ho H K
  go_wp2_with fail
  refine (cA'.out _ _ X_1.out).mono ?_
  rintro e w2 ⟨rfl, hb⟩
  have H_2 := Lib.hid (H_1.out.ext hb)
  have K_2 := Lib.hid (K_1.out.ext hb)
  have B_2 := Lib.hid (B_1.out.trans (hb.mono B_1.out.size))
  clear hb X_1 H_1 K_1 B_1
  go_wp2_with fail
  refine (cOB.out _ _ K_2.out).mono ?_
  rintro e w3 ⟨x2, rfl, ho, hb⟩
  have H_3 := Lib.hid (H_2.out.ext hb)
  have K_3 := Lib.hid (K_2.out.ext hb)
  have X_3 := Lib.hid (Sl.of_own ho)
  have B_3 := Lib.hid (B_2.out.trans (hb.mono B_2.out.size))
  clear hb ho H_2 K_2 B_2
  go_wp2_with fail
  refine (cB'.out _ _ X_3.out).mono ?_
  rintro e w4 ⟨rfl, hb⟩
  have H_4 := Lib.hid (H_3.out.ext hb)
  have K_4 := Lib.hid (K_3.out.ext hb)
  have B_4 := Lib.hid (B_3.out.trans (hb.mono B_3.out.size))
  clear hb X_3 H_3 K_3 B_3
  go_wp2_with fail
  refine (cOA.out _ _ H_4.out).mono ?_
  rintro e w5 ⟨x4, rfl, ho, hb⟩
  have K_5 := Lib.hid (K_4.out.ext hb)
  have X_5 := Lib.hid (Sl.of_own ho)
  have B_5 := Lib.hid (B_4.out.trans (hb.mono B_4.out.size))
  clear hb ho H_4 K_4 B_4
  go_wp2_with fail
  refine (cOB.out _ _ K_5.out).mono ?_
  rintro e w6 ⟨x5, rfl, ho, hb⟩
  have X_6 := Lib.hid (X_5.out.ext hb)
  have Y_6 := Lib.hid (Sl.of_own ho)
  have B_6 := Lib.hid (B_5.out.trans (hb.mono B_5.out.size))
  clear hb ho K_5 X_5 B_5
  go_wp2_with fail
  refine (cC'.out _ _ _ X_6.out Y_6.out).mono ?_
  rintro e w7 ⟨vd, rfl, ho, hb⟩
  have D_7 := Lib.hid (Sl.of_own ho)
  have B_7 := Lib.hid (B_6.out.trans (hb.mono B_6.out.size))
  clear hb ho X_6 Y_6 B_6
  obtain ⟨AD, cD, hvd, -⟩ := id D_7.out
  subst hvd
  simp only [List.length_nil] at *
  go_wp2_with fail
  refine (known5_any _).mono ?_
  rintro e w8 ⟨rfl, hb⟩
  have B_8 := Lib.hid (B_7.out.trans (hb.mono B_7.out.size))
  clear hb D_7 B_7
  go_wp2
  go_ret
  exact ⟨rfl, B_8.out⟩

set_option maxHeartbeats 8000000 in
set_option maxRecDepth 100000 in
theorem lawApp1 (s : List UInt8) (v : Value) (l : List Pc) (v' : Value) (l' : List Pc) (w : World) (hs : s.length ≤ 140737488351232) (h : Sl pcE w v l) (hd : ∀ p, p ∈ l → p.wf) (hl : l.length * 32 ≤ 140737488355328) (h' : Sl pcE w v' l') (hd' : ∀ p, p ∈ l' → p.wf) (hl' : l'.length * 32 ≤ 140737488355328) (h0 : fitE s l = 0) (h1 : fitE (applyS s l) l' = 0) (h2 : cmpE l l' = 5) :
    Calls Try.prog 10 #[.string ⟨s.toArray⟩, v, v'] w fun e w' => e = .returned (.bool true) ∧ Below w.heap.size w w' := by
  have hs' : s.length ≤ 9223372036854775807 := by omega
  have cOA := Lib.hid fun w x h => own5_any x l w h hl
  have cOB := Lib.hid fun w x h => own5_any x l' w h hl'
  have cA := fun w x h => apply_any s x l w hs' h hd
  have H := Lib.hid h; have K := Lib.hid h'
  have hT : (applyS s l).length ≤ 9223372036854775807 := by
    have e1 := (apply_eq h0).2
    have e2 := ((errL_iff l).1 (fit_ok h0).1).2.2.2
    omega
  have cB := fun w x h => apply_any (applyS s l) x l' w hT h hd'
  have cC := fun w x y h k => compose_any x y l l' w h k hd hd'
  rw [h0] at cA
  rw [h1] at cB
  rw [h2] at cC
  generalize cmpR l l' = DD at *
  generalize applyS (applyS s l) l' = UU at *
  generalize applyS s l = TT at *
  have cA' := Lib.hid cA; have cB' := Lib.hid cB; have cC' := Lib.hid cC
  clear cA cB cC h0 h1 h2 hT h h' hd hd' hl hl' hs hs'
  go_enter Try.func10, Try.ntmps10
  go_wp2_with fail
  refine (cOA.out _ _ H.out).mono ?_
  rintro e w1 ⟨x0, rfl, ho, hb⟩
  have H_1 := Lib.hid (H.out.ext hb)
  have K_1 := Lib.hid (K.out.ext hb)
  have X_1 := Lib.hid (Sl.of_own ho)
  have B_1 := Lib.hid hb
  clear hb ho H K
  go_wp2_with fail
  refine (cA'.out _ _ X_1.out).mono ?_
  rintro e w2 ⟨rfl, hb⟩
  have H_2 := Lib.hid (H_1.out.ext hb)
  have K_2 := Lib.hid (K_1.out.ext hb)
  have B_2 := Lib.hid (B_1.out.trans (hb.mono B_1.out.size))
  clear hb X_1 H_1 K_1 B_1
  go_wp2_with fail
  refine (cOB.out _ _ K_2.out).mono ?_
  rintro e w3 ⟨x2, rfl, ho, hb⟩
  have H_3 := Lib.hid (H_2.out.ext hb)
  have K_3 := Lib.hid (K_2.out.ext hb)
  have X_3 := Lib.hid (Sl.of_own ho)
  have B_3 := Lib.hid (B_2.out.trans (hb.mono B_2.out.size))
  clear hb ho H_2 K_2 B_2
  go_wp2_with fail
  refine (cB'.out _ _ X_3.out).mono ?_
  rintro e w4 ⟨rfl, hb⟩
  have H_4 := Lib.hid (H_3.out.ext hb)
  have K_4 := Lib.hid (K_3.out.ext hb)
  have B_4 := Lib.hid (B_3.out.trans (hb.mono B_3.out.size))
  clear hb X_3 H_3 K_3 B_3
  go_wp2_with fail
  refine (cOA.out _ _ H_4.out).mono ?_
  rintro e w5 ⟨x4, rfl, ho, hb⟩
  have K_5 := Lib.hid (K_4.out.ext hb)
  have X_5 := Lib.hid (Sl.of_own ho)
  have B_5 := Lib.hid (B_4.out.trans (hb.mono B_4.out.size))
  clear hb ho H_4 K_4 B_4
  go_wp2_with fail
  refine (cOB.out _ _ K_5.out).mono ?_
  rintro e w6 ⟨x5, rfl, ho, hb⟩
  have X_6 := Lib.hid (X_5.out.ext hb)
  have Y_6 := Lib.hid (Sl.of_own ho)
  have B_6 := Lib.hid (B_5.out.trans (hb.mono B_5.out.size))
  clear hb ho K_5 X_5 B_5
  go_wp2_with fail
  refine (cC'.out _ _ _ X_6.out Y_6.out).mono ?_
  rintro e w7 ⟨vd, rfl, ho, hb⟩
  have D_7 := Lib.hid (Sl.of_own ho)
  have B_7 := Lib.hid (B_6.out.trans (hb.mono B_6.out.size))
  clear hb ho X_6 Y_6 B_6
  go_wp2_with fail
  refine (known5_any _).mono ?_
  rintro e w8 ⟨rfl, hb⟩
  have B_8 := Lib.hid (B_7.out.trans (hb.mono B_7.out.size))
  clear hb D_7 B_7
  go_wp2
  go_ret
  exact ⟨rfl, B_8.out⟩

set_option maxHeartbeats 8000000 in
set_option maxRecDepth 100000 in
theorem lawApp2 (s : List UInt8) (v : Value) (l : List Pc) (v' : Value) (l' : List Pc) (w : World) (hs : s.length ≤ 140737488351232) (h : Sl pcE w v l) (hd : ∀ p, p ∈ l → p.wf) (hl : l.length * 32 ≤ 140737488355328) (h' : Sl pcE w v' l') (_hd' : ∀ p, p ∈ l' → p.wf) (hl' : l'.length * 32 ≤ 140737488355328) (h0 : fitE s l ≠ 0) :
    Calls Try.prog 10 #[.string ⟨s.toArray⟩, v, v'] w fun e w' => e = .returned (.bool true) ∧ Below w.heap.size w w' := by
  have hs' : s.length ≤ 9223372036854775807 := by omega
  have cOA := Lib.hid fun w x h => own5_any x l w h hl
  have cOB := Lib.hid fun w x h => own5_any x l' w h hl'
  have cA := fun w x h => apply_any s x l w hs' h hd
  have H := Lib.hid h; have K := Lib.hid h'
  have hb : (fitE s l != 0) = true := by simpa using h0
  generalize fitE s l = E at *
  generalize applyS s l = TT at *
  have cA' := Lib.hid cA
  clear cA cOB K h0 h h' hd _hd' hl hl' hs hs'
  go_enter Try.func10, Try.ntmps10
  go_wp2_with fail
  refine (cOA.out _ _ H.out).mono ?_
  rintro e w1 ⟨x0, rfl, ho, hb⟩
  have X_1 := Lib.hid (Sl.of_own ho)
  have B_1 := Lib.hid hb
  clear hb ho H
  go_wp2_with fail
  refine (cA'.out _ _ X_1.out).mono ?_
  rintro e w2 ⟨rfl, hb⟩
  have B_2 := Lib.hid (B_1.out.trans (hb.mono B_1.out.size))
  clear hb X_1 B_1
  go_wp2_with fail
  refine (known5_any _).mono ?_
  rintro e w3 ⟨rfl, hb⟩
  have B_3 := Lib.hid (B_2.out.trans (hb.mono B_2.out.size))
  clear hb B_2
  go_wp2
  go_ret
  exact ⟨rfl, B_3.out⟩

end Go.Proofs.Ytdlbjfgpfjcpaaa