/- quartolaw04.ApplySame returns true: the walk. -/
import Derived.Test.YtpbnciioeiohlaaLawBack
namespace Go.Proofs.Ytpbnciioeiohlaa
open Go.RowKit

theorem errL_fit0 {s : List UInt8} {l : List Pc} (h : fitE s l = 0) : errL l = 0 := (fit_ok h).1

set_option maxHeartbeats 4000000 in
set_option maxRecDepth 100000 in
theorem lawApplySame_any (s : List UInt8) (v : Value) (l : List Pc) (u : Value) (m : List Pc) (w : World) (hs : s.length ≤ 140737488351232) (h : Sl pcE w v l) (hd : ∀ p, p ∈ l → p.wf) (hl : l.length * 32 ≤ 140737488355328) (h' : Sl pcE w u m) (hd' : ∀ p, p ∈ m → p.wf) (hl' : m.length * 32 ≤ 140737488355328) :
    Calls Try.prog 9 #[.string ⟨s.toArray⟩, v, u] w fun e w' => e = .returned (.bool true) ∧ Below w.heap.size w w' := by
  have hs' : s.length ≤ 9223372036854775807 := by omega
  have cOwn := Lib.hid fun w x h => own_any x l w h hl
  have cOwnM := Lib.hid fun w x h => own_any x m w h hl'
  have cA := fun w x h => apply_any s x l w hs' h hd
  by_cases h0 : fitE s l = 0
  · have h1 := errL_fit0 h0
    have hm : normS l = formS l := by rw [normS, if_pos h1]
    have wN := wf_of_err (lens_formS h1).2
    have cN := fun w x h => normalize_any x l w h hd
    have cF := fun w x h => apply_any s x (formS l) w hs' h wN
    have cE := fun w x y h k => equivalent_any x y l m w h k hd hd'
    have cM := fun w x h => apply_any s x m w hs' h hd'
    simp only [h0, h1, hm, fit_form h0, apply_form h0] at cA cN cF
    have H := Lib.hid h; have K := Lib.hid h'
    have cA' := Lib.hid cA; have cN' := Lib.hid cN; have cF' := Lib.hid cF
    by_cases h2 : equivE l m = 0
    · by_cases h3 : equivB l m = true
      · have h4 : errL m = 0 := by
          unfold equivE at h2; rw [if_pos h1] at h2; exact h2
        have h5 : formS l = formS m := by
          unfold equivB at h3; rw [if_pos h2] at h3; exact (sameB_iff _ _).1 h3
        obtain ⟨k1, k2⟩ := apply_equiv h0 h4 h5
        simp only [h2, h3] at cE
        simp only [k1, k2] at cM
        generalize applyS s l = T at *
        have cE' := Lib.hid cE; have cM' := Lib.hid cM
        clear cA cN cF cE cM h h' h0 h1 hm wN h2 h3 h4 h5 k1 k2 hd hl hd' hl' hs hs'
        go_enter Try.func9, Try.ntmps9
        go_wp2_with fail
        refine (cOwn.out _ _ H.out).mono ?_
        rintro e w1 ⟨x, rfl, ho, hb⟩
        have H_1 := Lib.hid (H.out.ext hb)
        have K_1 := Lib.hid (K.out.ext hb)
        have X_1 := Lib.hid (Sl.of_own ho)
        have B_1 := Lib.hid hb
        clear hb ho H K
        go_wp2_with fail
        refine (cA'.out _ _ X_1.out).mono ?_
        rintro e w2 ⟨rfl, hb⟩
        have H_2 := Lib.hid (H_1.out.ext hb)
        have K_2 := Lib.hid (K_1.out.ext hb)
        have B_2 := Lib.hid (B_1.out.trans (hb.mono B_1.out.size))
        clear hb X_1 H_1 K_1 B_1
        go_wp2_with fail
        refine (cOwn.out _ _ H_2.out).mono ?_
        rintro e w3 ⟨x, rfl, ho, hb⟩
        have H_3 := Lib.hid (H_2.out.ext hb)
        have K_3 := Lib.hid (K_2.out.ext hb)
        have X_3 := Lib.hid (Sl.of_own ho)
        have B_3 := Lib.hid (B_2.out.trans (hb.mono B_2.out.size))
        clear hb ho H_2 K_2 B_2
        go_wp2_with fail
        refine (cN'.out _ _ X_3.out).mono ?_
        rintro e w4 ⟨n, rfl, ho, hb⟩
        have H_4 := Lib.hid (H_3.out.ext hb)
        have K_4 := Lib.hid (K_3.out.ext hb)
        have N_4 := Lib.hid (Sl.of_own ho)
        have B_4 := Lib.hid (B_3.out.trans (hb.mono B_3.out.size))
        clear hb ho X_3 H_3 K_3 B_3
        go_wp2_with fail
        refine (cF'.out _ _ N_4.out).mono ?_
        rintro e w5 ⟨rfl, hb⟩
        have H_5 := Lib.hid (H_4.out.ext hb)
        have K_5 := Lib.hid (K_4.out.ext hb)
        have B_5 := Lib.hid (B_4.out.trans (hb.mono B_4.out.size))
        clear hb N_4 H_4 K_4 B_4
        go_wp2_with fail
        refine (cOwn.out _ _ H_5.out).mono ?_
        rintro e w6 ⟨x, rfl, ho, hb⟩
        have K_6 := Lib.hid (K_5.out.ext hb)
        have X_6 := Lib.hid (Sl.of_own ho)
        have B_6 := Lib.hid (B_5.out.trans (hb.mono B_5.out.size))
        clear hb ho H_5 K_5 B_5
        go_wp2_with fail
        refine (cOwnM.out _ _ K_6.out).mono ?_
        rintro e w7 ⟨y, rfl, ho, hb⟩
        have K_7 := Lib.hid (K_6.out.ext hb)
        have X_7 := Lib.hid (X_6.out.ext hb)
        have Y_7 := Lib.hid (Sl.of_own ho)
        have B_7 := Lib.hid (B_6.out.trans (hb.mono B_6.out.size))
        clear hb ho K_6 X_6 B_6
        go_wp2_with fail
        refine (cE'.out _ _ _ X_7.out Y_7.out).mono ?_
        rintro e w8 ⟨rfl, hb⟩
        have K_8 := Lib.hid (K_7.out.ext hb)
        have B_8 := Lib.hid (B_7.out.trans (hb.mono B_7.out.size))
        clear hb X_7 Y_7 K_7 B_7
        go_wp2_with fail
        refine (cOwnM.out _ _ K_8.out).mono ?_
        rintro e w9 ⟨x, rfl, ho, hb⟩
        have X_9 := Lib.hid (Sl.of_own ho)
        have B_9 := Lib.hid (B_8.out.trans (hb.mono B_8.out.size))
        clear hb ho K_8 B_8
        go_wp2_with fail
        refine (cM'.out _ _ X_9.out).mono ?_
        rintro e w10 ⟨rfl, hb⟩
        have B_10 := Lib.hid (B_9.out.trans (hb.mono B_9.out.size))
        clear hb X_9 B_9
        go_wp2_with fail
        refine (known_any _).mono ?_
        rintro e w11 ⟨rfl, hb⟩
        have B_11 := Lib.hid (B_10.out.trans (hb.mono B_10.out.size))
        clear hb B_10
        go_wp2
        go_ret
        exact ⟨rfl, B_11.out⟩
      · have h3' : equivB l m = false := by simpa using h3
        simp only [h2, h3'] at cE
        generalize applyS s l = T at *
        have cE' := Lib.hid cE
        clear cA cN cF cE cM h h' h0 h1 hm wN h2 h3 h3' hd hl hd' hl' hs hs'
        go_enter Try.func9, Try.ntmps9
        go_wp2_with fail
        refine (cOwn.out _ _ H.out).mono ?_
        rintro e w1 ⟨x, rfl, ho, hb⟩
        have H_1 := Lib.hid (H.out.ext hb)
        have K_1 := Lib.hid (K.out.ext hb)
        have X_1 := Lib.hid (Sl.of_own ho)
        have B_1 := Lib.hid hb
        clear hb ho H K
        go_wp2_with fail
        refine (cA'.out _ _ X_1.out).mono ?_
        rintro e w2 ⟨rfl, hb⟩
        have H_2 := Lib.hid (H_1.out.ext hb)
        have K_2 := Lib.hid (K_1.out.ext hb)
        have B_2 := Lib.hid (B_1.out.trans (hb.mono B_1.out.size))
        clear hb X_1 H_1 K_1 B_1
        go_wp2_with fail
        refine (cOwn.out _ _ H_2.out).mono ?_
        rintro e w3 ⟨x, rfl, ho, hb⟩
        have H_3 := Lib.hid (H_2.out.ext hb)
        have K_3 := Lib.hid (K_2.out.ext hb)
        have X_3 := Lib.hid (Sl.of_own ho)
        have B_3 := Lib.hid (B_2.out.trans (hb.mono B_2.out.size))
        clear hb ho H_2 K_2 B_2
        go_wp2_with fail
        refine (cN'.out _ _ X_3.out).mono ?_
        rintro e w4 ⟨n, rfl, ho, hb⟩
        have H_4 := Lib.hid (H_3.out.ext hb)
        have K_4 := Lib.hid (K_3.out.ext hb)
        have N_4 := Lib.hid (Sl.of_own ho)
        have B_4 := Lib.hid (B_3.out.trans (hb.mono B_3.out.size))
        clear hb ho X_3 H_3 K_3 B_3
        go_wp2_with fail
        refine (cF'.out _ _ N_4.out).mono ?_
        rintro e w5 ⟨rfl, hb⟩
        have H_5 := Lib.hid (H_4.out.ext hb)
        have K_5 := Lib.hid (K_4.out.ext hb)
        have B_5 := Lib.hid (B_4.out.trans (hb.mono B_4.out.size))
        clear hb N_4 H_4 K_4 B_4
        go_wp2_with fail
        refine (cOwn.out _ _ H_5.out).mono ?_
        rintro e w6 ⟨x, rfl, ho, hb⟩
        have K_6 := Lib.hid (K_5.out.ext hb)
        have X_6 := Lib.hid (Sl.of_own ho)
        have B_6 := Lib.hid (B_5.out.trans (hb.mono B_5.out.size))
        clear hb ho H_5 K_5 B_5
        go_wp2_with fail
        refine (cOwnM.out _ _ K_6.out).mono ?_
        rintro e w7 ⟨y, rfl, ho, hb⟩
        have K_7 := Lib.hid (K_6.out.ext hb)
        have X_7 := Lib.hid (X_6.out.ext hb)
        have Y_7 := Lib.hid (Sl.of_own ho)
        have B_7 := Lib.hid (B_6.out.trans (hb.mono B_6.out.size))
        clear hb ho K_6 X_6 B_6
        go_wp2_with fail
        refine (cE'.out _ _ _ X_7.out Y_7.out).mono ?_
        rintro e w8 ⟨rfl, hb⟩
        have K_8 := Lib.hid (K_7.out.ext hb)
        have B_8 := Lib.hid (B_7.out.trans (hb.mono B_7.out.size))
        clear hb X_7 Y_7 K_7 B_7
        go_wp2_with fail
        refine (known_any _).mono ?_
        rintro e w9 ⟨rfl, hb⟩
        have B_9 := Lib.hid (B_8.out.trans (hb.mono B_8.out.size))
        clear hb K_8 B_8
        go_wp2
        go_ret
        exact ⟨rfl, B_9.out⟩
    · have h2' : (equivE l m == 0) = false := by simpa using h2
      generalize equivE l m = E at *
      generalize equivB l m = EB at *
      generalize applyS s l = T at *
      have cE' := Lib.hid cE
      clear cA cN cF cE cM h h' h0 h1 hm wN h2 hd hl hd' hl' hs hs'
      go_enter Try.func9, Try.ntmps9
      go_wp2_with fail
      refine (cOwn.out _ _ H.out).mono ?_
      rintro e w1 ⟨x, rfl, ho, hb⟩
      have H_1 := Lib.hid (H.out.ext hb)
      have K_1 := Lib.hid (K.out.ext hb)
      have X_1 := Lib.hid (Sl.of_own ho)
      have B_1 := Lib.hid hb
      clear hb ho H K
      go_wp2_with fail
      refine (cA'.out _ _ X_1.out).mono ?_
      rintro e w2 ⟨rfl, hb⟩
      have H_2 := Lib.hid (H_1.out.ext hb)
      have K_2 := Lib.hid (K_1.out.ext hb)
      have B_2 := Lib.hid (B_1.out.trans (hb.mono B_1.out.size))
      clear hb X_1 H_1 K_1 B_1
      go_wp2_with fail
      refine (cOwn.out _ _ H_2.out).mono ?_
      rintro e w3 ⟨x, rfl, ho, hb⟩
      have H_3 := Lib.hid (H_2.out.ext hb)
      have K_3 := Lib.hid (K_2.out.ext hb)
      have X_3 := Lib.hid (Sl.of_own ho)
      have B_3 := Lib.hid (B_2.out.trans (hb.mono B_2.out.size))
      clear hb ho H_2 K_2 B_2
      go_wp2_with fail
      refine (cN'.out _ _ X_3.out).mono ?_
      rintro e w4 ⟨n, rfl, ho, hb⟩
      have H_4 := Lib.hid (H_3.out.ext hb)
      have K_4 := Lib.hid (K_3.out.ext hb)
      have N_4 := Lib.hid (Sl.of_own ho)
      have B_4 := Lib.hid (B_3.out.trans (hb.mono B_3.out.size))
      clear hb ho X_3 H_3 K_3 B_3
      go_wp2_with fail
      refine (cF'.out _ _ N_4.out).mono ?_
      rintro e w5 ⟨rfl, hb⟩
      have H_5 := Lib.hid (H_4.out.ext hb)
      have K_5 := Lib.hid (K_4.out.ext hb)
      have B_5 := Lib.hid (B_4.out.trans (hb.mono B_4.out.size))
      clear hb N_4 H_4 K_4 B_4
      go_wp2_with fail
      refine (cOwn.out _ _ H_5.out).mono ?_
      rintro e w6 ⟨x, rfl, ho, hb⟩
      have K_6 := Lib.hid (K_5.out.ext hb)
      have X_6 := Lib.hid (Sl.of_own ho)
      have B_6 := Lib.hid (B_5.out.trans (hb.mono B_5.out.size))
      clear hb ho H_5 K_5 B_5
      go_wp2_with fail
      refine (cOwnM.out _ _ K_6.out).mono ?_
      rintro e w7 ⟨y, rfl, ho, hb⟩
      have K_7 := Lib.hid (K_6.out.ext hb)
      have X_7 := Lib.hid (X_6.out.ext hb)
      have Y_7 := Lib.hid (Sl.of_own ho)
      have B_7 := Lib.hid (B_6.out.trans (hb.mono B_6.out.size))
      clear hb ho K_6 X_6 B_6
      go_wp2_with fail
      refine (cE'.out _ _ _ X_7.out Y_7.out).mono ?_
      rintro e w8 ⟨rfl, hb⟩
      have K_8 := Lib.hid (K_7.out.ext hb)
      have B_8 := Lib.hid (B_7.out.trans (hb.mono B_7.out.size))
      clear hb X_7 Y_7 K_7 B_7
      go_wp2_with fail
      refine (known_any _).mono ?_
      rintro e w9 ⟨rfl, hb⟩
      have B_9 := Lib.hid (B_8.out.trans (hb.mono B_8.out.size))
      clear hb K_8 B_8
      go_wp2
      go_ret
      exact ⟨rfl, B_9.out⟩
  · have hb : (fitE s l != 0) = true := by simpa using h0
    generalize applyS s l = T at *
    generalize fitE s l = E at *
    have H := Lib.hid h
    have cA' := Lib.hid cA
    clear cA h h' h0 hd hl hd' hl' hs hs'
    go_enter Try.func9, Try.ntmps9
    go_wp2_with fail
    refine (cOwn.out _ _ H.out).mono ?_
    rintro e w1 ⟨x, rfl, ho, hb⟩
    have X_1 := Lib.hid (Sl.of_own ho)
    have B_1 := Lib.hid hb
    clear hb ho H
    go_wp2_with fail
    refine (cA'.out _ _ X_1.out).mono ?_
    rintro e w2 ⟨rfl, hb⟩
    have B_2 := Lib.hid (B_1.out.trans (hb.mono B_1.out.size))
    clear hb X_1 B_1
    go_wp2_with fail
    refine (known_any _).mono ?_
    rintro e w3 ⟨rfl, hb⟩
    have B_3 := Lib.hid (B_2.out.trans (hb.mono B_2.out.size))
    clear hb B_2
    go_wp2
    go_ret
    exact ⟨rfl, B_3.out⟩

end Go.Proofs.Ytpbnciioeiohlaa
