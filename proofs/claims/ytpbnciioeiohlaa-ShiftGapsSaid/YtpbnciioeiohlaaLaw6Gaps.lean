/- quartolaw06.ShiftGaps returns true: the walk. -/
import Derived.Test.YtpbnciioeiohlaaBoth6
import Derived.Test.YtpbnciioeiohlaaAtoms
namespace Go.Proofs.Ytpbnciioeiohlaa
open Go.RowKit

theorem Sl.int {w : World} {v : Value} {l : List Int} (h : Sl inE w v l) {k : Nat} (hk : k < l.length) :
    ∃ b off cap, v = .slice (some ⟨b, off, none⟩) l.length cap ∧ b < w.heap.size ∧ ∀ w', Below w.heap.size w w' → w'.cell? ⟨b, off + k, none⟩ = some (.int .i64 l[k]) := by
  obtain ⟨A, cap, rfl, h2, h3, h4⟩ := h
  obtain ⟨b, off, rfl, hb, hc⟩ := h4 (by omega)
  have hx : l[k]? = some l[k] := List.getElem?_eq_getElem hk
  refine ⟨b, off, cap, rfl, hb, fun w' hb' => ?_⟩
  have := hc k 0 _ _ hx rfl
  rw [show k * inE.sz + 0 = k by simp [inE]] at this
  exact (hb'.cell (p := ⟨b, _, none⟩) hb).trans this
theorem gaps {l : List Pc} (h : Val l) {x : Int} :
    ∃ a b : Nat, leftP x 0 (runsT false l) = a ∧ rightP x (outL l) (runsT false l) = b ∧ a ≤ b ∧ b ≤ (atoms 0 l).length ∧ ((atoms 0 l).length : Int) = outL l ∧
      (∀ i (hi : i < (atoms 0 l).length), a ≤ i → i < b → (atoms 0 l)[i] < 0) ∧
      (∀ i (hi : i < (atoms 0 l).length), a = i + 1 → 0 ≤ (atoms 0 l)[i] ∧ (atoms 0 l)[i] < x) ∧ (∀ hi : b < (atoms 0 l).length, x ≤ (atoms 0 l)[b]) := by
  have hlen := Val.atoms_len h 0
  have l1 := left_bd h false x
  have l2 := right_bd h false x
  have l3 := left_right h false x
  have L := leftL h false x
  have R := rightL h false x
  simp only [ioL, Bool.false_eq_true, if_false] at l1 l2 l3 R
  generalize leftP x 0 (runsT false l) = a' at *
  generalize rightP x (outL l) (runsT false l) = b' at *
  obtain ⟨a, rfl⟩ := Int.eq_ofNat_of_zero_le l1.1
  obtain ⟨b, rfl⟩ := Int.eq_ofNat_of_zero_le l2.1
  have La := (L a).1 (Int.le_refl _)
  have Rb := (R b).1 (Int.le_refl _)
  have hK : ∀ i (hi : i < (atoms 0 l).length), 0 ≤ (atoms 0 l)[i] → KT false l (atoms 0 l)[i] i := fun i hi h0 => (KT.atoms h).2 ⟨h0, i, rfl, List.getElem?_eq_getElem hi⟩
  have hK' : ∀ (i : Int) (j : Nat) (hj : j < (atoms 0 l).length), KT false l i j → (atoms 0 l)[j] = i ∧ 0 ≤ i := fun i j hj hk => by
    obtain ⟨h0, k, e1, e2⟩ := (KT.atoms h).1 hk
    obtain rfl : j = k := by omega
    rw [List.getElem?_eq_getElem hj] at e2
    injection e2 with e2
    exact ⟨e2, h0⟩
  refine ⟨a, b, rfl, rfl, by omega, by omega, hlen, ?_, ?_, ?_⟩
  · intro i hi h1 h2
    refine Classical.byContradiction fun hc => ?_
    have hk := hK i hi (by omega)
    by_cases hlt : (atoms 0 l)[i] < x
    · have := La.2 _ _ hk hlt; omega
    · have := Rb.2 _ _ hk (by omega); omega
  · intro i hi ha
    have hn : ¬ ((a : Int) ≤ i) := by omega
    rw [L] at hn
    have : ∃ p q, KT false l p q ∧ p < x ∧ ¬ q < (i : Int) := by
      refine Classical.byContradiction fun hc => hn ⟨by omega, fun p q hk hp => Classical.byContradiction fun hq => hc ⟨p, q, hk, hp, hq⟩⟩
    obtain ⟨p, q, hk, hp, hq⟩ := this
    have hqa := La.2 _ _ hk hp
    obtain rfl : q = i := by omega
    obtain ⟨e1, e2⟩ := hK' p i hi hk
    rw [e1]
    exact ⟨e2, hp⟩
  · intro hi
    have hn : ¬ ((b : Int) + 1 ≤ b) := by omega
    rw [R] at hn
    have : ∃ p q, KT false l p q ∧ x ≤ p ∧ ¬ (b : Int) + 1 ≤ q := by
      refine Classical.byContradiction fun hc => hn ⟨by omega, fun p q hk hp => Classical.byContradiction fun hq => hc ⟨p, q, hk, hp, hq⟩⟩
    obtain ⟨p, q, hk, hp, hq⟩ := this
    have hqb := Rb.2 _ _ hk hp
    obtain rfl : q = b := by omega
    obtain ⟨e1, e2⟩ := hK' p b hi hk
    rw [e1]
    exact hp

set_option maxHeartbeats 4000000 in
set_option maxRecDepth 100000 in
theorem lawShiftGaps_any (v : Value) (l : List Pc) (x : Int) (w : World) (h : Sl pcE w v l) (hd : ∀ p, p ∈ l → p.wf) (hl : l.length * 32 ≤ 140737488355328) (_hx : -9223372036854775808 ≤ x) (_hx' : x ≤ 9223372036854775807) :
    Calls Try.prog 15 #[v, .int .i64 x] w fun e w' => e = .returned (.bool true) ∧ Below w.heap.size w w' := by
  have cOwn := Lib.hid fun w x h => own6_any x l w h hl
  have cL := fun w z h => lengths_any z l w h hd
  have H := Lib.hid h
  by_cases h0 : errL l = 0
  · simp only [lensV_ok h0] at cL
    have hpre := formPre_of_lens h0
    have cG := fun w z h => large_any z l w h hd (fun p hp => by have := (hpre.2 p hp).2.2; omega)
    have c1 := fun w z h => both_any z l x w h hd hl
    by_cases h1 : x < 0 ∨ inL l < x
    · have CL := Lib.hid cL
      clear cL c1 cG h hd hl h0 hpre
      generalize inL l = n at *
      by_cases g1 : x < 0
      · clear h1
        go_enter Try.func15, Try.ntmps15
        go_wp2_with fail
        refine (cOwn.out _ _ H.out).mono ?_
        rintro e w1 ⟨x1, rfl, ho, hb⟩
        have H_1 := Lib.hid (H.out.ext hb)
        have X_1 := Lib.hid (Sl.of_own ho)
        have B_1 := Lib.hid hb
        clear hb ho H
        go_wp2_with fail
        refine (CL.out _ _ X_1.out).mono ?_
        rintro e w2 ⟨rfl, hb⟩
        have B_2 := Lib.hid (B_1.out.trans (hb.mono B_1.out.size))
        clear hb X_1 H_1 B_1
        go_wp2_with fail
        refine (known6_any _).mono ?_
        rintro e w3 ⟨rfl, hb⟩
        have B_3 := Lib.hid (B_2.out.trans (hb.mono B_2.out.size))
        clear hb B_2
        go_wp2
        go_ret
        exact ⟨rfl, B_3.out⟩
      · have g2 : n < x := by omega
        clear h1
        go_enter Try.func15, Try.ntmps15
        go_wp2_with fail
        refine (cOwn.out _ _ H.out).mono ?_
        rintro e w1 ⟨x1, rfl, ho, hb⟩
        have H_1 := Lib.hid (H.out.ext hb)
        have X_1 := Lib.hid (Sl.of_own ho)
        have B_1 := Lib.hid hb
        clear hb ho H
        go_wp2_with fail
        refine (CL.out _ _ X_1.out).mono ?_
        rintro e w2 ⟨rfl, hb⟩
        have B_2 := Lib.hid (B_1.out.trans (hb.mono B_1.out.size))
        clear hb X_1 H_1 B_1
        go_wp2_with fail
        refine (known6_any _).mono ?_
        rintro e w3 ⟨rfl, hb⟩
        have B_3 := Lib.hid (B_2.out.trans (hb.mono B_2.out.size))
        clear hb B_2
        go_wp2
        go_ret
        exact ⟨rfl, B_3.out⟩
    · have hv := ((errL_iff l).1 h0).2.1
      have g1 : ¬ x < 0 := by omega
      have g2 : ¬ inL l < x := by omega
      have e1 : posE l x 0 = 0 := by rw [posE, if_pos h0, movE_ok h1 (.inl rfl)]
      have hb : bothOk l x = true := by simpa [bothOk] using e1
      obtain ⟨k0, k1, k2, k3, k4⟩ := both_vals hb
      have cA := fun w z h => atoms_any z l w h ⟨hv, hpre⟩
      obtain ⟨a, b, ha, hbb, hab, hbl, hlen, f1, f2, f3⟩ := gaps hv (x := x)
      rw [ha] at k3
      rw [hbb] at k4
      simp only [hb, k3, k4] at c1
      generalize atoms 0 l = L at *
      generalize inL l = n at *
      generalize outL l = m at *
      subst hlen
      by_cases hlarge : largeB l = true
      · simp only [hlarge] at cG
        have CL := Lib.hid cL; have CG := Lib.hid cG
        clear cL c1 cG cA h hd hl h0 h1 hpre hv e1 hb k0 k1 k2 k3 k4 ha hbb f1 f2 f3 hlarge
        go_enter Try.func15, Try.ntmps15
        go_wp2_with fail
        refine (cOwn.out _ _ H.out).mono ?_
        rintro e w1 ⟨x1, rfl, ho, hb⟩
        have H_1 := Lib.hid (H.out.ext hb)
        have X_1 := Lib.hid (Sl.of_own ho)
        have B_1 := Lib.hid hb
        clear hb ho H
        go_wp2_with fail
        refine (CL.out _ _ X_1.out).mono ?_
        rintro e w2 ⟨rfl, hb⟩
        have H_2 := Lib.hid (H_1.out.ext hb)
        have B_2 := Lib.hid (B_1.out.trans (hb.mono B_1.out.size))
        clear hb X_1 H_1 B_1
        go_wp2_with fail
        refine (CG.out _ _ H_2.out).mono ?_
        rintro e w3 ⟨rfl, hb⟩
        have B_3 := Lib.hid (B_2.out.trans (hb.mono B_2.out.size))
        clear hb H_2 B_2
        go_wp2_with fail
        refine (known6_any _).mono ?_
        rintro e w4 ⟨rfl, hb⟩
        have B_4 := Lib.hid (B_3.out.trans (hb.mono B_3.out.size))
        clear hb B_3
        go_wp2
        go_ret
        exact ⟨rfl, B_4.out⟩
      · have hlarge' : largeB l = false := by simpa using hlarge
        simp only [hlarge'] at cG
        have CL := Lib.hid cL; have CG := Lib.hid cG; have C1 := Lib.hid c1; have CA := Lib.hid cA; have F1 := Lib.hid f1; have F2 := Lib.hid f2; have F3 := Lib.hid f3
        have hab' : (a : Int) ≤ (b : Int) := by omega
        have hbl' : (b : Int) ≤ (L.length : Int) := by omega
        clear cL c1 cG cA h hd hl h0 h1 hpre hv e1 hb k0 k1 k2 k3 k4 ha hbb f1 f2 f3 hlarge hlarge'
        go_enter Try.func15, Try.ntmps15
        go_wp2_with fail
        refine (cOwn.out _ _ H.out).mono ?_
        rintro e w1 ⟨x1, rfl, ho, hb⟩
        have H_1 := Lib.hid (H.out.ext hb)
        have X_1 := Lib.hid (Sl.of_own ho)
        have B_1 := Lib.hid hb
        clear hb ho H
        go_wp2_with fail
        refine (CL.out _ _ X_1.out).mono ?_
        rintro e w2 ⟨rfl, hb⟩
        have H_2 := Lib.hid (H_1.out.ext hb)
        have B_2 := Lib.hid (B_1.out.trans (hb.mono B_1.out.size))
        clear hb X_1 H_1 B_1
        go_wp2_with fail
        refine (CG.out _ _ H_2.out).mono ?_
        rintro e w3 ⟨rfl, hb⟩
        have H_3 := Lib.hid (H_2.out.ext hb)
        have B_3 := Lib.hid (B_2.out.trans (hb.mono B_2.out.size))
        clear hb H_2 B_2
        go_wp2_with fail
        refine (C1.out _ _ H_3.out).mono ?_
        rintro e w4 ⟨rfl, hb⟩
        have H_4 := Lib.hid (H_3.out.ext hb)
        have B_4 := Lib.hid (B_3.out.trans (hb.mono B_3.out.size))
        clear hb H_3 B_3
        go_wp2_with fail
        refine (CA.out _ _ H_4.out).mono ?_
        rintro e w5 ⟨y, rfl, ho, hb⟩
        have S_5 := Lib.hid (Sl.of_own ho)
        have B_5 := Lib.hid (B_4.out.trans (hb.mono B_4.out.size))
        clear hb ho H_4 B_4
        obtain ⟨A, cap, rfl, q2, q3, -⟩ := id S_5.out
        unfold maxLen at q3
        go_wp2_with fail
        go_loopw [12] (fun i wr => ∃ k : Nat, a ≤ k ∧ k ≤ b ∧ i = .int .i64 k ∧ wr = w5) (fun i _ => b - (intOf i).toNat)
        case atStart => exact ⟨a, by omega, by omega, rfl, rfl⟩
        case round =>
          obtain ⟨k, hk1, hk2, rfl, rfl⟩ := hrel
          by_cases hlt : k < b
          · obtain ⟨bb, off, cap', hv, hb, hc⟩ := S_5.out.int (k := k) (by omega)
            obtain ⟨rfl, rfl⟩ : A = some ⟨bb, off, none⟩ ∧ cap = cap' := by injection hv with e1 e2 e3; exact ⟨e1, e3⟩
            have c0 := hc _ (Below.refl _ _)
            have hneg := F1.out k (by omega) hk1 hlt
            have hi2 : (k : Int) < (L.length : Int) := by omega
            clear hv hc
            generalize L[k] = z at *
            go_wp2
            go_roundw
            case rel => exact ⟨k + 1, by omega, by omega, by go_num, trivial⟩
            case measure => simp [intOf]; omega
          · obtain rfl : k = b := by omega
            have G2 : a = 0 ∨ 0 < a := by omega
            have hL0 : k = L.length ∨ k < L.length := by omega
            rcases hL0 with hL0 | hL0
            · have hkl : ((k : Int) == (L.length : Int)) = true := by rw [beq_iff_eq]; omega
              rcases G2 with rfl | ha0
              · have hz : (((0 : Nat) : Int) == 0) = true := rfl
                clear hL0
                go_wp2_with fail
                refine (known6_any _).mono ?_
                rintro e w99 ⟨rfl, hb9⟩
                have B9 := Lib.hid (B_5.out.trans (hb9.mono B_5.out.size))
                clear hb9
                go_wp2
                go_ret
                exact ⟨rfl, B9.out⟩
              · have hz : ((a : Int) == 0) = false := by rw [beq_eq_false_iff_ne]; omega
                obtain ⟨bb, off, cap', hv, hb, hc⟩ := S_5.out.int (k := a - 1) (by omega)
                obtain ⟨rfl, rfl⟩ : A = some ⟨bb, off, none⟩ ∧ cap = cap' := by injection hv with e1 e2 e3; exact ⟨e1, e3⟩
                have c0 := hc _ (Below.refl _ _)
                obtain ⟨t1, t2⟩ := F2.out (a - 1) (by omega) (by omega)
                have hjl : (a : Int) - 1 < (L.length : Int) := by omega
                have hj0 : (0 : Int) ≤ (a : Int) - 1 := by omega
                clear hv hc
                generalize L[a - 1] = z at *
                clear hL0
                go_wp2_with fail
                refine (known6_any _).mono ?_
                rintro e w99 ⟨rfl, hb9⟩
                have B9 := Lib.hid (B_5.out.trans (hb9.mono B_5.out.size))
                clear hb9
                go_wp2
                go_ret
                exact ⟨rfl, B9.out⟩
            · have hkl : ((k : Int) == (L.length : Int)) = false := by rw [beq_eq_false_iff_ne]; omega
              obtain ⟨bb, off, cap', hv, hb, hc⟩ := S_5.out.int hL0
              obtain ⟨rfl, rfl⟩ : A = some ⟨bb, off, none⟩ ∧ cap = cap' := by injection hv with e1 e2 e3; exact ⟨e1, e3⟩
              have c9 := hc _ (Below.refl _ _)
              have t9 := F3.out hL0
              have hkL : (k : Int) < (L.length : Int) := by omega
              clear hv hc
              generalize L[k] = z9 at *
              rcases G2 with rfl | ha0
              · have hz : (((0 : Nat) : Int) == 0) = true := rfl
                clear hL0
                go_wp2_with fail
                refine (known6_any _).mono ?_
                rintro e w99 ⟨rfl, hb9⟩
                have B9 := Lib.hid (B_5.out.trans (hb9.mono B_5.out.size))
                clear hb9
                go_wp2
                go_ret
                exact ⟨rfl, B9.out⟩
              · have hz : ((a : Int) == 0) = false := by rw [beq_eq_false_iff_ne]; omega
                obtain ⟨bb', off', cap', hv, hb', hc⟩ := S_5.out.int (k := a - 1) (by omega)
                obtain ⟨rfl, rfl⟩ : bb = bb' ∧ off = off' := by injection hv with e1 e2 e3; injection e1 with e1; injection e1 with e4 e5; exact ⟨e4, e5⟩
                have c0 := hc _ (Below.refl _ _)
                obtain ⟨t1, t2⟩ := F2.out (a - 1) (by omega) (by omega)
                have hjl : (a : Int) - 1 < (L.length : Int) := by omega
                have hj0 : (0 : Int) ≤ (a : Int) - 1 := by omega
                clear hv hc
                generalize L[a - 1] = z at *
                clear hL0
                go_wp2_with fail
                refine (known6_any _).mono ?_
                rintro e w99 ⟨rfl, hb9⟩
                have B9 := Lib.hid (B_5.out.trans (hb9.mono B_5.out.size))
                clear hb9
                go_wp2
                go_ret
                exact ⟨rfl, B9.out⟩
  · have hlr := lens_err h0
    have hb : (errL l != 0) = true := by simpa using h0
    simp only [show lensV l = .tuple #[.int .i64 0, .int .i64 0, .int .i64 (errL l)] by unfold lensV; rw [hlr]; rfl] at cL
    generalize errL l = E at *
    have CL := Lib.hid cL
    clear cL h hd hl h0 hlr
    go_enter Try.func15, Try.ntmps15
    go_wp2_with fail
    refine (cOwn.out _ _ H.out).mono ?_
    rintro e w1 ⟨x1, rfl, ho, hb⟩
    have H_1 := Lib.hid (H.out.ext hb)
    have X_1 := Lib.hid (Sl.of_own ho)
    have B_1 := Lib.hid hb
    clear hb ho H
    go_wp2_with fail
    refine (CL.out _ _ X_1.out).mono ?_
    rintro e w2 ⟨rfl, hb⟩
    have B_2 := Lib.hid (B_1.out.trans (hb.mono B_1.out.size))
    clear hb X_1 H_1 B_1
    go_wp2_with fail
    refine (known6_any _).mono ?_
    rintro e w3 ⟨rfl, hb⟩
    have B_3 := Lib.hid (B_2.out.trans (hb.mono B_2.out.size))
    clear hb B_2
    go_wp2
    go_ret
    exact ⟨rfl, B_3.out⟩

end Go.Proofs.Ytpbnciioeiohlaa
