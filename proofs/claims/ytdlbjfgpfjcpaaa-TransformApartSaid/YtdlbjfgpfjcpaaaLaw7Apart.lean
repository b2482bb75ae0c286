/- quartolaw07.TransformApart returns true: the walk. -/
import Derived.Test.YtdlbjfgpfjcpaaaKnown7
import Derived.Test.YtdlbjfgpfjcpaaaRef7d
import Derived.Test.YtdlbjfgpfjcpaaaRef7e
namespace Go.Proofs.Ytdlbjfgpfjcpaaa
open Go.RowKit

set_option maxHeartbeats 8000000 in
set_option maxRecDepth 100000 in
theorem lawTransformApart_any (v : Value) (l : List Pc) (v' : Value) (l' : List Pc) (w : World) (h : Sl pcE w v l) (hd : ∀ p, p ∈ l → p.wf) (hl : l.length * 32 ≤ 140737488355328) (ht : ∀ p, p ∈ l → p.t.length ≤ 140737488355328) (h' : Sl pcE w v' l') (hd' : ∀ p, p ∈ l' → p.wf) (hl' : l'.length * 32 ≤ 140737488355328) (ht' : ∀ p, p ∈ l' → p.t.length ≤ 140737488355328) :
    Calls Try.prog 16 #[v, v'] w fun e w' => e = .returned (.bool true) ∧ Below w.heap.size w w' := by
  have cA := Lib.hid fun w x h => own7_any x l w h hl
  have cB := Lib.hid fun w x h => own7_any x l' w h hl'
  have cL := fun w h => large_any v l w h hd ht
  have cM := fun w h => large_any v' l' w h hd' ht'
  have H := Lib.hid h; have K := Lib.hid h'
  cases A : largeB l with
  | true =>
    rw [A] at cL
    have CL := Lib.hid cL
    clear cL cM A h h' hd hd' hl hl' ht ht'
    go_enter Try.func16, Try.ntmps16
    go_wp2_with fail
    refine (CL.out _ H.out).mono ?_
    rintro e w1 ⟨rfl, hb⟩
    have B_1 := Lib.hid hb
    clear hb H K
    go_wp2_with fail
    refine (known7_any _).mono ?_
    rintro e w2 ⟨rfl, hb⟩
    have B_2 := Lib.hid (B_1.out.trans (hb.mono B_1.out.size))
    clear hb B_1
    go_wp2
    go_ret
    exact ⟨rfl, B_2.out⟩
  | false =>
    rw [A] at cL
    cases A' : largeB l' with
    | true =>
      rw [A'] at cM
      have CL := Lib.hid cL; have CM := Lib.hid cM
      clear cL cM A A' h h' hd hd' hl hl' ht ht'
      go_enter Try.func16, Try.ntmps16
      go_wp2_with fail
      refine (CL.out _ H.out).mono ?_
      rintro e w1 ⟨rfl, hb⟩
      have K_1 := Lib.hid (K.out.ext hb)
      have B_1 := Lib.hid hb
      clear hb H K
      go_wp2_with fail
      refine (CM.out _ K_1.out).mono ?_
      rintro e w2 ⟨rfl, hb⟩
      have B_2 := Lib.hid (B_1.out.trans (hb.mono B_1.out.size))
      clear hb K_1 B_1
      go_wp2_with fail
      refine (known7_any _).mono ?_
      rintro e w3 ⟨rfl, hb⟩
      have B_3 := Lib.hid (B_2.out.trans (hb.mono B_2.out.size))
      clear hb B_2
      go_wp2
      go_ret
      exact ⟨rfl, B_3.out⟩
    | false =>
      rw [A'] at cM
      have b1 : prE l l' = 0 → outL l + iN l' ≤ 49000 := fun e => by
        obtain ⟨ea, eb, -⟩ := prE_ok e
        have := small_out A ea
        have := small_out A' eb
        have := (kN_in ((errL_iff l').1 eb).2.1)
        omega
      have b2 : prE l' l = 0 → outL l' + iN l ≤ 49000 := fun e => by
        obtain ⟨eb, ea, -⟩ := prE_ok e
        have := small_out A ea
        have := small_out A' eb
        have := (kN_in ((errL_iff l).1 ea).2.1)
        omega
      have c1 := fun w x y h k => disj_any x y l l' w h k hd hd'
      have c2 := fun w h k => refDisj7_any v v' l l' w h k hd hd'
      generalize prE l l' = E at *
      generalize disB l l' = D at *
      have CL := Lib.hid cL; have CM := Lib.hid cM; have C1 := Lib.hid c1; have C2 := Lib.hid c2
      clear cL cM c1 c2 b1 b2 A A' h h' hd hd' hl hl' ht ht'
      go_enter Try.func16, Try.ntmps16
      go_wp2_with fail
      refine (CL.out _ H.out).mono ?_
      rintro e w1 ⟨rfl, hb⟩
      have H_1 := Lib.hid (H.out.ext hb)
      have K_1 := Lib.hid (K.out.ext hb)
      have B_1 := Lib.hid hb
      clear hb H K
      go_wp2_with fail
      refine (CM.out _ K_1.out).mono ?_
      rintro e w2 ⟨rfl, hb⟩
      have H_2 := Lib.hid (H_1.out.ext hb)
      have K_2 := Lib.hid (K_1.out.ext hb)
      have B_2 := Lib.hid (B_1.out.trans (hb.mono B_1.out.size))
      clear hb H_1 K_1 B_1
      go_wp2_with fail
      refine (cA.out _ _ H_2.out).mono ?_
      rintro e w3 ⟨x2, rfl, ho, hb⟩
      have H_3 := Lib.hid (H_2.out.ext hb)
      have K_3 := Lib.hid (K_2.out.ext hb)
      have X_3 := Lib.hid (Sl.of_own ho)
      have B_3 := Lib.hid (B_2.out.trans (hb.mono B_2.out.size))
      clear hb ho H_2 K_2 B_2
      go_wp2_with fail
      refine (cB.out _ _ K_3.out).mono ?_
      rintro e w4 ⟨x3, rfl, ho, hb⟩
      have H_4 := Lib.hid (H_3.out.ext hb)
      have K_4 := Lib.hid (K_3.out.ext hb)
      have X_4 := Lib.hid (X_3.out.ext hb)
      have Y_4 := Lib.hid (Sl.of_own ho)
      have B_4 := Lib.hid (B_3.out.trans (hb.mono B_3.out.size))
      clear hb ho H_3 K_3 X_3 B_3
      go_wp2_with fail
      refine (C1.out _ _ _ X_4.out Y_4.out).mono ?_
      rintro e w5 ⟨rfl, hb⟩
      have H_5 := Lib.hid (H_4.out.ext hb)
      have K_5 := Lib.hid (K_4.out.ext hb)
      have X_5 := Lib.hid (X_4.out.ext hb)
      have Y_5 := Lib.hid (Y_4.out.ext hb)
      have B_5 := Lib.hid (B_4.out.trans (hb.mono B_4.out.size))
      clear hb H_4 K_4 X_4 Y_4 B_4
      go_wp2_with fail
      refine (C2.out _ H_5.out K_5.out).mono ?_
      rintro e w6 ⟨rfl, hb⟩
      have H_6 := Lib.hid (H_5.out.ext hb)
      have K_6 := Lib.hid (K_5.out.ext hb)
      have X_6 := Lib.hid (X_5.out.ext hb)
      have Y_6 := Lib.hid (Y_5.out.ext hb)
      have B_6 := Lib.hid (B_5.out.trans (hb.mono B_5.out.size))
      clear hb H_5 K_5 X_5 Y_5 B_5
      go_wp2_with fail
      refine (same_any _ _ l l _ X_6.out H_6.out).mono ?_
      rintro e w7 ⟨rfl, hb⟩
      have K_7 := Lib.hid (K_6.out.ext hb)
      have Y_7 := Lib.hid (Y_6.out.ext hb)
      have B_7 := Lib.hid (B_6.out.trans (hb.mono B_6.out.size))
      clear hb X_6 H_6 K_6 Y_6 B_6
      rw [sameB_refl l]
      go_wp2_with fail
      refine (same_any _ _ l' l' _ Y_7.out K_7.out).mono ?_
      rintro e w8 ⟨rfl, hb⟩
      have B_8 := Lib.hid (B_7.out.trans (hb.mono B_7.out.size))
      clear hb Y_7 K_7 B_7
      rw [sameB_refl l']
      go_wp2_with fail
      refine (known7_any _).mono ?_
      rintro e w9 ⟨rfl, hb⟩
      have B_9 := Lib.hid (B_8.out.trans (hb.mono B_8.out.size))
      clear hb B_8
      go_wp2
      go_ret
      exact ⟨rfl, B_9.out⟩

end Go.Proofs.Ytdlbjfgpfjcpaaa