/- quartolaw05.ComposeApplies returns true: the walk, where the deltas fit. -/
import Derived.Test.YtdlbjfgpfjcpaaaKnown5
import Derived.Test.YtdlbjfgpfjcpaaaPlainC3
import Derived.Test.YtdlbjfgpfjcpaaaAtoms
import Derived.Test.YtdlbjfgpfjcpaaaNormal
namespace Go.Proofs.Ytdlbjfgpfjcpaaa
open Go.RowKit

theorem Sl.int {w : World} {v : Value} {l : List Int} (h : Sl inE w v l) {k : Nat} (hk : k < l.length) :
    ∃ b off cap, v = .slice (some ⟨b, off, none⟩) l.length cap ∧ b < w.heap.size ∧ ∀ w', Below w.heap.size w w' → w'.cell? ⟨b, off + k, none⟩ = some (.int .i64 l[k]) := by
  obtain ⟨A, cap, rfl, h2, h3, h4⟩ := h
  obtain ⟨b, off, rfl, hb, hc⟩ := h4 (by omega)
  have hx : l[k]? = some l[k] := List.getElem?_eq_getElem hk
  refine ⟨b, off, cap, rfl, hb, fun w' hb' => ?_⟩
  have := hc k 0 _ _ hx rfl
  rw [show k * inE.sz + 0 = k by simp [inE]] at this
  exact (hb'.cell (p := ⟨b, _, none⟩) hb).trans this
theorem gaps {l : List Pc} (h : Val l) {x : Int} :
    ∃ a b : Nat, leftP x 0 (runsT false l) = a ∧ rightP x (outL l) (runsT false l) = b ∧ a ≤ b ∧ b ≤ (atoms 0 l).length ∧ ((atoms 0 l).length : Int) = outL l ∧
      (∀ i (hi : i < (atoms 0 l).length), a ≤ i → i < b → (atoms 0 l)[i] < 0) ∧
      (∀ i (hi : i < (atoms 0 l).length), a = i + 1 → 0 ≤ (atoms 0 l)[i] ∧ (atoms 0 l)[i] < x) ∧ (∀ hi : b < (atoms 0 l).length, x ≤ (atoms 0 l)[b]) := by
  have hlen := Val.atoms_len h 0
  have l1 := left_bd h false x
  have l2 := right_bd h false x
  have l3 := left_right h false x
  have L := leftL h false x
  have R := rightL h false x
  simp only [ioL, Bool.false_eq_true, if_false] at l1 l2 l3 R
  generalize leftP x 0 (runsT false l) = a' at *
  generalize rightP x (outL l) (runsT false l) = b' at *
  obtain ⟨a, rfl⟩ := Int.eq_ofNat_of_zero_le l1.1
  obtain ⟨b, rfl⟩ := Int.eq_ofNat_of_zero_le l2.1
  have La := (L a).1 (Int.le_refl _)
  have Rb := (R b).1 (Int.le_refl _)
  have hK : ∀ i (hi : i < (atoms 0 l).length), 0 ≤ (atoms 0 l)[i] → KT false l (atoms 0 l)[i] i := fun i hi h0 => (KT.atoms h).2 ⟨h0, i, rfl, List.getElem?_eq_getElem hi⟩
  have hK' : ∀ (i : Int) (j : Nat) (hj : j < (atoms 0 l).length), KT false l i j → (atoms 0 l)[j] = i ∧ 0 ≤ i := fun i j hj hk => by
    obtain ⟨h0, k, e1, e2⟩ := (KT.atoms h).1 hk
    obtain rfl : j = k := by omega
    rw [List.getElem?_eq_getElem hj] at e2
    injection e2 with e2
    exact ⟨e2, h0⟩
  refine ⟨a, b, rfl, rfl, by omega, by omega, hlen, ?_, ?_, ?_⟩
  · intro i hi h1 h2
    refine Classical.byContradiction fun hc => ?_
    have hk := hK i hi (by omega)
    by_cases hlt : (atoms 0 l)[i] < x
    · have := La.2 _ _ hk hlt; omega
    · have := Rb.2 _ _ hk (by omega); omega
  · intro i hi ha
    have hn : ¬ ((a : Int) ≤ i) := by omega
    rw [L] at hn
    have : ∃ p q, KT false l p q ∧ p < x ∧ ¬ q < (i : Int) := by
      refine Classical.byContradiction fun hc => hn ⟨by omega, fun p q hk hp => Classical.byContradiction fun hq => hc ⟨p, q, hk, hp, hq⟩⟩
    obtain ⟨p, q, hk, hp, hq⟩ := this
    have hqa := La.2 _ _ hk hp
    obtain rfl : q = i := by omega
    obtain ⟨e1, e2⟩ := hK' p i hi hk
    rw [e1]
    exact ⟨e2, hp⟩
  · intro hi
    have hn : ¬ ((b : Int) + 1 ≤ b) := by omega
    rw [R] at hn
    have : ∃ p q, KT false l p q ∧ x ≤ p ∧ ¬ (b : Int) + 1 ≤ q := by
      refine Classical.byContradiction fun hc => hn ⟨by omega, fun p q hk hp => Classical.byContradiction fun hq => hc ⟨p, q, hk, hp, hq⟩⟩
    obtain ⟨p, q, hk, hp, hq⟩ := this
    have hqb := Rb.2 _ _ hk hp
    obtain rfl : q = b := by omega
    obtain ⟨e1, e2⟩ := hK' p b hi hk
    rw [e1]
    exact hp

set_option maxHeartbeats 8000000 in
set_option maxRecDepth 100000 in
theorem lawApp3 (s : List UInt8) (v : Value) (l : List Pc) (v' : Value) (l' : List Pc) (w : World) (hs : s.length ≤ 140737488351232) (h : Sl pcE w v l) (hd : ∀ p, p ∈ l → p.wf) (hl : l.length * 32 ≤ 140737488355328) (h' : Sl pcE w v' l') (hd' : ∀ p, p ∈ l' → p.wf) (hl' : l'.length * 32 ≤ 140737488355328) (h0 : fitE s l = 0) (h1 : fitE (applyS s l) l' = 0) (h2 : cmpE l l' = 0) (h3 : largeB l = true ∨ largeB l' = true ∨ largeB (cmpR l l') = true) :
    Calls Try.prog 10 #[.string ⟨s.toArray⟩, v, v'] w fun e w' => e = .returned (.bool true) ∧ Below w.heap.size w w' := by
  have hs' : s.length ≤ 9223372036854775807 := by omega
  have cOA := Lib.hid fun w x h => own5_any x l w h hl
  have cOB := Lib.hid fun w x h => own5_any x l' w h hl'
  have cA := fun w x h => apply_any s x l w hs' h hd
  have H := Lib.hid h; have K := Lib.hid h'
  have hT : (applyS s l).length ≤ 9223372036854775807 := by
    have e1 := (apply_eq h0).2
    have e2 := ((errL_iff l).1 (fit_ok h0).1).2.2.2
    omega
  have cB := fun w x h => apply_any (applyS s l) x l' w hT h hd'
  have cC := fun w x y h k => compose_any x y l l' w h k hd hd'
  rw [h0] at cA
  obtain ⟨c1, c2, c3⟩ := cmp_applies h0 h2
  obtain ⟨x1, x2, x3, x4, x5, x6, x7⟩ := cmpR_ok h2
  have e1 := (fit_ok h0).1
  have e2 := (fit_ok h1).1
  have wD := wf_of_err x2
  have cOD := Lib.hid fun w x h => own5_any x (cmpR l l') w h (len32c x2)
  have cU := fun w x h => apply_any s x (cmpR l l') w hs' h wD
  have cN := fun w x h => normal_any x (cmpR l l') w h wD
  have hno : normB (cmpR l l') = true := by rw [normB, if_pos x2, x7]; exact sameB_refl _
  rw [c1, c2] at cU
  rw [hno] at cN
  rw [h1] at cB
  rw [h2] at cC
  have tl : ∀ {m : List Pc}, errL m = 0 → ∀ p, p ∈ m → p.t.length ≤ 140737488355328 := fun hm p hp => by
    have := ((formPre_of_lens hm).2 p hp).2.2
    omega
  have cLA := fun w x h => large_any x l w h hd (tl e1)
  have cLB := fun w x h => large_any x l' w h hd' (tl e2)
  have cLD := fun w x h => large_any x (cmpR l l') w h wD (tl x2)
  by_cases g1 : largeB l = true
  · rw [g1] at cLA
    clear h3 g1
    generalize cmpR l l' = DD at *
    generalize applyS (applyS s l) l' = UU at *
    generalize applyS s l = TT at *
    have cA' := Lib.hid cA; have cB' := Lib.hid cB; have cC' := Lib.hid cC; have cU' := Lib.hid cU; have cN' := Lib.hid cN; have cLA' := Lib.hid cLA; have cLB' := Lib.hid cLB; have cLD' := Lib.hid cLD
    clear cA cB cC cU cN cLA cLB cLD h0 h1 h2 hT c1 c2 c3 x1 x2 x3 x4 x5 x6 x7 e1 e2 wD hno tl h h' hd hd' hl hl' hs hs'
    go_enter Try.func10, Try.ntmps10
    go_wp2_with fail
    refine (cOA.out _ _ H.out).mono ?_
    rintro e w1 ⟨x0, rfl, ho, hb⟩
    have H_1 := Lib.hid (H.out.ext hb)
    have K_1 := Lib.hid (K.out.ext hb)
    have X_1 := Lib.hid (Sl.of_own ho)
    have B_1 := Lib.hid hb
    clear hb ho H K
    go_wp2_with fail
    refine (cA'.out _ _ X_1.out).mono ?_
    rintro e w2 ⟨rfl, hb⟩
    have H_2 := Lib.hid (H_1.out.ext hb)
    have K_2 := Lib.hid (K_1.out.ext hb)
    have B_2 := Lib.hid (B_1.out.trans (hb.mono B_1.out.size))
    clear hb X_1 H_1 K_1 B_1
    go_wp2_with fail
    refine (cOB.out _ _ K_2.out).mono ?_
    rintro e w3 ⟨x2, rfl, ho, hb⟩
    have H_3 := Lib.hid (H_2.out.ext hb)
    have K_3 := Lib.hid (K_2.out.ext hb)
    have X_3 := Lib.hid (Sl.of_own ho)
    have B_3 := Lib.hid (B_2.out.trans (hb.mono B_2.out.size))
    clear hb ho H_2 K_2 B_2
    go_wp2_with fail
    refine (cB'.out _ _ X_3.out).mono ?_
    rintro e w4 ⟨rfl, hb⟩
    have H_4 := Lib.hid (H_3.out.ext hb)
    have K_4 := Lib.hid (K_3.out.ext hb)
    have B_4 := Lib.hid (B_3.out.trans (hb.mono B_3.out.size))
    clear hb X_3 H_3 K_3 B_3
    go_wp2_with fail
    refine (cOA.out _ _ H_4.out).mono ?_
    rintro e w5 ⟨x4, rfl, ho, hb⟩
    have H_5 := Lib.hid (H_4.out.ext hb)
    have K_5 := Lib.hid (K_4.out.ext hb)
    have X_5 := Lib.hid (Sl.of_own ho)
    have B_5 := Lib.hid (B_4.out.trans (hb.mono B_4.out.size))
    clear hb ho H_4 K_4 B_4
    go_wp2_with fail
    refine (cOB.out _ _ K_5.out).mono ?_
    rintro e w6 ⟨x5, rfl, ho, hb⟩
    have H_6 := Lib.hid (H_5.out.ext hb)
    have K_6 := Lib.hid (K_5.out.ext hb)
    have X_6 := Lib.hid (X_5.out.ext hb)
    have Y_6 := Lib.hid (Sl.of_own ho)
    have B_6 := Lib.hid (B_5.out.trans (hb.mono B_5.out.size))
    clear hb ho H_5 K_5 X_5 B_5
    go_wp2_with fail
    refine (cC'.out _ _ _ X_6.out Y_6.out).mono ?_
    rintro e w7 ⟨vd, rfl, ho, hb⟩
    have H_7 := Lib.hid (H_6.out.ext hb)
    have K_7 := Lib.hid (K_6.out.ext hb)
    have D_7 := Lib.hid (Sl.of_own ho)
    have B_7 := Lib.hid (B_6.out.trans (hb.mono B_6.out.size))
    clear hb ho X_6 Y_6 H_6 K_6 B_6
    go_wp2_with fail
    refine (cOD.out _ _ D_7.out).mono ?_
    rintro e w8 ⟨x7, rfl, ho, hb⟩
    have H_8 := Lib.hid (H_7.out.ext hb)
    have K_8 := Lib.hid (K_7.out.ext hb)
    have D_8 := Lib.hid (D_7.out.ext hb)
    have X_8 := Lib.hid (Sl.of_own ho)
    have B_8 := Lib.hid (B_7.out.trans (hb.mono B_7.out.size))
    clear hb ho H_7 K_7 D_7 B_7
    go_wp2_with fail
    refine (cU'.out _ _ X_8.out).mono ?_
    rintro e w9 ⟨rfl, hb⟩
    have H_9 := Lib.hid (H_8.out.ext hb)
    have K_9 := Lib.hid (K_8.out.ext hb)
    have D_9 := Lib.hid (D_8.out.ext hb)
    have B_9 := Lib.hid (B_8.out.trans (hb.mono B_8.out.size))
    clear hb X_8 H_8 K_8 D_8 B_8
    go_wp2_with fail
    refine (cN'.out _ _ D_9.out).mono ?_
    rintro e w10 ⟨rfl, hb⟩
    have H_10 := Lib.hid (H_9.out.ext hb)
    have K_10 := Lib.hid (K_9.out.ext hb)
    have D_10 := Lib.hid (D_9.out.ext hb)
    have B_10 := Lib.hid (B_9.out.trans (hb.mono B_9.out.size))
    clear hb H_9 K_9 D_9 B_9
    go_wp2_with fail
    refine (cLA'.out _ _ H_10.out).mono ?_
    rintro e w11 ⟨rfl, hb⟩
    have B_11 := Lib.hid (B_10.out.trans (hb.mono B_10.out.size))
    clear hb H_10 K_10 D_10 B_10
    go_wp2_with fail
    refine (known5_any _).mono ?_
    rintro e w12 ⟨rfl, hb⟩
    have B_12 := Lib.hid (B_11.out.trans (hb.mono B_11.out.size))
    clear hb B_11
    go_wp2
    go_ret
    exact ⟨rfl, B_12.out⟩
  · have g1' : largeB l = false := by simpa using g1
    rw [g1'] at cLA
    by_cases g2 : largeB l' = true
    · rw [g2] at cLB
      clear h3 g1 g1' g2
      generalize cmpR l l' = DD at *
      generalize applyS (applyS s l) l' = UU at *
      generalize applyS s l = TT at *
      have cA' := Lib.hid cA; have cB' := Lib.hid cB; have cC' := Lib.hid cC; have cU' := Lib.hid cU; have cN' := Lib.hid cN; have cLA' := Lib.hid cLA; have cLB' := Lib.hid cLB; have cLD' := Lib.hid cLD
      clear cA cB cC cU cN cLA cLB cLD h0 h1 h2 hT c1 c2 c3 x1 x2 x3 x4 x5 x6 x7 e1 e2 wD hno tl h h' hd hd' hl hl' hs hs'
      go_enter Try.func10, Try.ntmps10
      go_wp2_with fail
      refine (cOA.out _ _ H.out).mono ?_
      rintro e w1 ⟨x0, rfl, ho, hb⟩
      have H_1 := Lib.hid (H.out.ext hb)
      have K_1 := Lib.hid (K.out.ext hb)
      have X_1 := Lib.hid (Sl.of_own ho)
      have B_1 := Lib.hid hb
      clear hb ho H K
      go_wp2_with fail
      refine (cA'.out _ _ X_1.out).mono ?_
      rintro e w2 ⟨rfl, hb⟩
      have H_2 := Lib.hid (H_1.out.ext hb)
      have K_2 := Lib.hid (K_1.out.ext hb)
      have B_2 := Lib.hid (B_1.out.trans (hb.mono B_1.out.size))
      clear hb X_1 H_1 K_1 B_1
      go_wp2_with fail
      refine (cOB.out _ _ K_2.out).mono ?_
      rintro e w3 ⟨x2, rfl, ho, hb⟩
      have H_3 := Lib.hid (H_2.out.ext hb)
      have K_3 := Lib.hid (K_2.out.ext hb)
      have X_3 := Lib.hid (Sl.of_own ho)
      have B_3 := Lib.hid (B_2.out.trans (hb.mono B_2.out.size))
      clear hb ho H_2 K_2 B_2
      go_wp2_with fail
      refine (cB'.out _ _ X_3.out).mono ?_
      rintro e w4 ⟨rfl, hb⟩
      have H_4 := Lib.hid (H_3.out.ext hb)
      have K_4 := Lib.hid (K_3.out.ext hb)
      have B_4 := Lib.hid (B_3.out.trans (hb.mono B_3.out.size))
      clear hb X_3 H_3 K_3 B_3
      go_wp2_with fail
      refine (cOA.out _ _ H_4.out).mono ?_
      rintro e w5 ⟨x4, rfl, ho, hb⟩
      have H_5 := Lib.hid (H_4.out.ext hb)
      have K_5 := Lib.hid (K_4.out.ext hb)
      have X_5 := Lib.hid (Sl.of_own ho)
      have B_5 := Lib.hid (B_4.out.trans (hb.mono B_4.out.size))
      clear hb ho H_4 K_4 B_4
      go_wp2_with fail
      refine (cOB.out _ _ K_5.out).mono ?_
      rintro e w6 ⟨x5, rfl, ho, hb⟩
      have H_6 := Lib.hid (H_5.out.ext hb)
      have K_6 := Lib.hid (K_5.out.ext hb)
      have X_6 := Lib.hid (X_5.out.ext hb)
      have Y_6 := Lib.hid (Sl.of_own ho)
      have B_6 := Lib.hid (B_5.out.trans (hb.mono B_5.out.size))
      clear hb ho H_5 K_5 X_5 B_5
      go_wp2_with fail
      refine (cC'.out _ _ _ X_6.out Y_6.out).mono ?_
      rintro e w7 ⟨vd, rfl, ho, hb⟩
      have H_7 := Lib.hid (H_6.out.ext hb)
      have K_7 := Lib.hid (K_6.out.ext hb)
      have D_7 := Lib.hid (Sl.of_own ho)
      have B_7 := Lib.hid (B_6.out.trans (hb.mono B_6.out.size))
      clear hb ho X_6 Y_6 H_6 K_6 B_6
      go_wp2_with fail
      refine (cOD.out _ _ D_7.out).mono ?_
      rintro e w8 ⟨x7, rfl, ho, hb⟩
      have H_8 := Lib.hid (H_7.out.ext hb)
      have K_8 := Lib.hid (K_7.out.ext hb)
      have D_8 := Lib.hid (D_7.out.ext hb)
      have X_8 := Lib.hid (Sl.of_own ho)
      have B_8 := Lib.hid (B_7.out.trans (hb.mono B_7.out.size))
      clear hb ho H_7 K_7 D_7 B_7
      go_wp2_with fail
      refine (cU'.out _ _ X_8.out).mono ?_
      rintro e w9 ⟨rfl, hb⟩
      have H_9 := Lib.hid (H_8.out.ext hb)
      have K_9 := Lib.hid (K_8.out.ext hb)
      have D_9 := Lib.hid (D_8.out.ext hb)
      have B_9 := Lib.hid (B_8.out.trans (hb.mono B_8.out.size))
      clear hb X_8 H_8 K_8 D_8 B_8
      go_wp2_with fail
      refine (cN'.out _ _ D_9.out).mono ?_
      rintro e w10 ⟨rfl, hb⟩
      have H_10 := Lib.hid (H_9.out.ext hb)
      have K_10 := Lib.hid (K_9.out.ext hb)
      have D_10 := Lib.hid (D_9.out.ext hb)
      have B_10 := Lib.hid (B_9.out.trans (hb.mono B_9.out.size))
      clear hb H_9 K_9 D_9 B_9
      go_wp2_with fail
      refine (cLA'.out _ _ H_10.out).mono ?_
      rintro e w11 ⟨rfl, hb⟩
      have K_11 := Lib.hid (K_10.out.ext hb)
      have D_11 := Lib.hid (D_10.out.ext hb)
      have B_11 := Lib.hid (B_10.out.trans (hb.mono B_10.out.size))
      clear hb H_10 K_10 D_10 B_10
      go_wp2_with fail
      refine (cLB'.out _ _ K_11.out).mono ?_
      rintro e w12 ⟨rfl, hb⟩
      have B_12 := Lib.hid (B_11.out.trans (hb.mono B_11.out.size))
      clear hb K_11 D_11 B_11
      go_wp2_with fail
      refine (known5_any _).mono ?_
      rintro e w13 ⟨rfl, hb⟩
      have B_13 := Lib.hid (B_12.out.trans (hb.mono B_12.out.size))
      clear hb B_12
      go_wp2
      go_ret
      exact ⟨rfl, B_13.out⟩
    · have g2' : largeB l' = false := by simpa using g2
      have g3 : largeB (cmpR l l') = true := by rcases h3 with h | h | h; exact absurd h g1; exact absurd h g2; exact h
      rw [g2'] at cLB
      rw [g3] at cLD
      clear h3 g1 g1' g2 g2' g3
      generalize cmpR l l' = DD at *
      generalize applyS (applyS s l) l' = UU at *
      generalize applyS s l = TT at *
      have cA' := Lib.hid cA; have cB' := Lib.hid cB; have cC' := Lib.hid cC; have cU' := Lib.hid cU; have cN' := Lib.hid cN; have cLA' := Lib.hid cLA; have cLB' := Lib.hid cLB; have cLD' := Lib.hid cLD
      clear cA cB cC cU cN cLA cLB cLD h0 h1 h2 hT c1 c2 c3 x1 x2 x3 x4 x5 x6 x7 e1 e2 wD hno tl h h' hd hd' hl hl' hs hs'
      go_enter Try.func10, Try.ntmps10
      go_wp2_with fail
      refine (cOA.out _ _ H.out).mono ?_
      rintro e w1 ⟨x0, rfl, ho, hb⟩
      have H_1 := Lib.hid (H.out.ext hb)
      have K_1 := Lib.hid (K.out.ext hb)
      have X_1 := Lib.hid (Sl.of_own ho)
      have B_1 := Lib.hid hb
      clear hb ho H K
      go_wp2_with fail
      refine (cA'.out _ _ X_1.out).mono ?_
      rintro e w2 ⟨rfl, hb⟩
      have H_2 := Lib.hid (H_1.out.ext hb)
      have K_2 := Lib.hid (K_1.out.ext hb)
      have B_2 := Lib.hid (B_1.out.trans (hb.mono B_1.out.size))
      clear hb X_1 H_1 K_1 B_1
      go_wp2_with fail
      refine (cOB.out _ _ K_2.out).mono ?_
      rintro e w3 ⟨x2, rfl, ho, hb⟩
      have H_3 := Lib.hid (H_2.out.ext hb)
      have K_3 := Lib.hid (K_2.out.ext hb)
      have X_3 := Lib.hid (Sl.of_own ho)
      have B_3 := Lib.hid (B_2.out.trans (hb.mono B_2.out.size))
      clear hb ho H_2 K_2 B_2
      go_wp2_with fail
      refine (cB'.out _ _ X_3.out).mono ?_
      rintro e w4 ⟨rfl, hb⟩
      have H_4 := Lib.hid (H_3.out.ext hb)
      have K_4 := Lib.hid (K_3.out.ext hb)
      have B_4 := Lib.hid (B_3.out.trans (hb.mono B_3.out.size))
      clear hb X_3 H_3 K_3 B_3
      go_wp2_with fail
      refine (cOA.out _ _ H_4.out).mono ?_
      rintro e w5 ⟨x4, rfl, ho, hb⟩
      have H_5 := Lib.hid (H_4.out.ext hb)
      have K_5 := Lib.hid (K_4.out.ext hb)
      have X_5 := Lib.hid (Sl.of_own ho)
      have B_5 := Lib.hid (B_4.out.trans (hb.mono B_4.out.size))
      clear hb ho H_4 K_4 B_4
      go_wp2_with fail
      refine (cOB.out _ _ K_5.out).mono ?_
      rintro e w6 ⟨x5, rfl, ho, hb⟩
      have H_6 := Lib.hid (H_5.out.ext hb)
      have K_6 := Lib.hid (K_5.out.ext hb)
      have X_6 := Lib.hid (X_5.out.ext hb)
      have Y_6 := Lib.hid (Sl.of_own ho)
      have B_6 := Lib.hid (B_5.out.trans (hb.mono B_5.out.size))
      clear hb ho H_5 K_5 X_5 B_5
      go_wp2_with fail
      refine (cC'.out _ _ _ X_6.out Y_6.out).mono ?_
      rintro e w7 ⟨vd, rfl, ho, hb⟩
      have H_7 := Lib.hid (H_6.out.ext hb)
      have K_7 := Lib.hid (K_6.out.ext hb)
      have D_7 := Lib.hid (Sl.of_own ho)
      have B_7 := Lib.hid (B_6.out.trans (hb.mono B_6.out.size))
      clear hb ho X_6 Y_6 H_6 K_6 B_6
      go_wp2_with fail
      refine (cOD.out _ _ D_7.out).mono ?_
      rintro e w8 ⟨x7, rfl, ho, hb⟩
      have H_8 := Lib.hid (H_7.out.ext hb)
      have K_8 := Lib.hid (K_7.out.ext hb)
      have D_8 := Lib.hid (D_7.out.ext hb)
      have X_8 := Lib.hid (Sl.of_own ho)
      have B_8 := Lib.hid (B_7.out.trans (hb.mono B_7.out.size))
      clear hb ho H_7 K_7 D_7 B_7
      go_wp2_with fail
      refine (cU'.out _ _ X_8.out).mono ?_
      rintro e w9 ⟨rfl, hb⟩
      have H_9 := Lib.hid (H_8.out.ext hb)
      have K_9 := Lib.hid (K_8.out.ext hb)
      have D_9 := Lib.hid (D_8.out.ext hb)
      have B_9 := Lib.hid (B_8.out.trans (hb.mono B_8.out.size))
      clear hb X_8 H_8 K_8 D_8 B_8
      go_wp2_with fail
      refine (cN'.out _ _ D_9.out).mono ?_
      rintro e w10 ⟨rfl, hb⟩
      have H_10 := Lib.hid (H_9.out.ext hb)
      have K_10 := Lib.hid (K_9.out.ext hb)
      have D_10 := Lib.hid (D_9.out.ext hb)
      have B_10 := Lib.hid (B_9.out.trans (hb.mono B_9.out.size))
      clear hb H_9 K_9 D_9 B_9
      go_wp2_with fail
      refine (cLA'.out _ _ H_10.out).mono ?_
      rintro e w11 ⟨rfl, hb⟩
      have K_11 := Lib.hid (K_10.out.ext hb)
      have D_11 := Lib.hid (D_10.out.ext hb)
      have B_11 := Lib.hid (B_10.out.trans (hb.mono B_10.out.size))
      clear hb H_10 K_10 D_10 B_10
      go_wp2_with fail
      refine (cLB'.out _ _ K_11.out).mono ?_
      rintro e w12 ⟨rfl, hb⟩
      have D_12 := Lib.hid (D_11.out.ext hb)
      have B_12 := Lib.hid (B_11.out.trans (hb.mono B_11.out.size))
      clear hb K_11 D_11 B_11
      go_wp2_with fail
      refine (cLD'.out _ _ D_12.out).mono ?_
      rintro e w13 ⟨rfl, hb⟩
      have B_13 := Lib.hid (B_12.out.trans (hb.mono B_12.out.size))
      clear hb D_12 B_12
      go_wp2_with fail
      refine (known5_any _).mono ?_
      rintro e w14 ⟨rfl, hb⟩
      have B_14 := Lib.hid (B_13.out.trans (hb.mono B_13.out.size))
      clear hb B_13
      go_wp2
      go_ret
      exact ⟨rfl, B_14.out⟩

set_option maxHeartbeats 8000000 in
set_option maxRecDepth 100000 in
theorem lawApp4 (s : List UInt8) (v : Value) (l : List Pc) (v' : Value) (l' : List Pc) (w : World) (hs : s.length ≤ 140737488351232) (h : Sl pcE w v l) (hd : ∀ p, p ∈ l → p.wf) (hl : l.length * 32 ≤ 140737488355328) (h' : Sl pcE w v' l') (hd' : ∀ p, p ∈ l' → p.wf) (hl' : l'.length * 32 ≤ 140737488355328) (h0 : fitE s l = 0) (h1 : fitE (applyS s l) l' = 0) (h2 : cmpE l l' = 0) (h3 : largeB l = false) (h4 : largeB l' = false) (h5 : largeB (cmpR l l') = false) :
    Calls Try.prog 10 #[.string ⟨s.toArray⟩, v, v'] w fun e w' => e = .returned (.bool true) ∧ Below w.heap.size w w' := by
  have hs' : s.length ≤ 9223372036854775807 := by omega
  have cOA := Lib.hid fun w x h => own5_any x l w h hl
  have cOB := Lib.hid fun w x h => own5_any x l' w h hl'
  have cA := fun w x h => apply_any s x l w hs' h hd
  have H := Lib.hid h; have K := Lib.hid h'
  have hT : (applyS s l).length ≤ 9223372036854775807 := by
    have e1 := (apply_eq h0).2
    have e2 := ((errL_iff l).1 (fit_ok h0).1).2.2.2
    omega
  have cB := fun w x h => apply_any (applyS s l) x l' w hT h hd'
  have cC := fun w x y h k => compose_any x y l l' w h k hd hd'
  rw [h0] at cA
  obtain ⟨c1, c2, c3⟩ := cmp_applies h0 h2
  obtain ⟨x1, x2, x3, x4, x5, x6, x7⟩ := cmpR_ok h2
  have e1 := (fit_ok h0).1
  have e2 := (fit_ok h1).1
  have wD := wf_of_err x2
  have cOD := Lib.hid fun w x h => own5_any x (cmpR l l') w h (len32c x2)
  have cU := fun w x h => apply_any s x (cmpR l l') w hs' h wD
  have cN := fun w x h => normal_any x (cmpR l l') w h wD
  have hno : normB (cmpR l l') = true := by rw [normB, if_pos x2, x7]; exact sameB_refl _
  rw [c1, c2] at cU
  rw [hno] at cN
  rw [h1] at cB
  rw [h2] at cC
  have tl : ∀ {m : List Pc}, errL m = 0 → ∀ p, p ∈ m → p.t.length ≤ 140737488355328 := fun hm p hp => by
    have := ((formPre_of_lens hm).2 p hp).2.2
    omega
  have cLA := fun w x h => large_any x l w h hd (tl e1)
  have cLB := fun w x h => large_any x l' w h hd' (tl e2)
  have cLD := fun w x h => large_any x (cmpR l l') w h wD (tl x2)
  rw [h3] at cLA
  rw [h4] at cLB
  rw [h5] at cLD
  have pre : ∀ {m : List Pc}, errL m = 0 → AtPre m := fun hm => ⟨((errL_iff _).1 hm).2.1, formPre_of_lens hm⟩
  have cPA := fun w x h => atoms_any x l w h (pre e1)
  have cPB := fun w x h => atoms_any x l' w h (pre e2)
  have cPD := fun w x h => atoms_any x (cmpR l l') w h (pre x2)
  have va := ((errL_iff _).1 e1).2.1
  have vb := ((errL_iff _).1 e2).2.1
  have la := va.atoms_len 0
  have lb := vb.atoms_len 0
  have boa := ((errL_iff _).1 e1).2.2.2
  have bob := ((errL_iff _).1 e2).2.2.2
  have hfit := (cmpE_ok h2).2.2.1
  have hin : ∀ x ∈ atoms 0 l', x < ((atoms 0 l).length : Int) := fun x hx => by have := vb.inB x hx; omega
  rw [x6] at cPD
  have HIN := Lib.hid hin
  have hla : (atoms 0 l).length ≤ 1048576 := by omega
  have hlb : (atoms 0 l').length ≤ 1048576 := by omega
  clear h3 h4 h5 pre va vb la lb boa bob hfit hin
  generalize atoms 0 l = AA at *
  generalize atoms 0 l' = BB at *
  have cPA' := Lib.hid cPA; have cPB' := Lib.hid cPB; have cPD' := Lib.hid cPD
  clear cPA cPB cPD
  generalize cmpR l l' = DD at *
  generalize applyS (applyS s l) l' = UU at *
  generalize applyS s l = TT at *
  have cA' := Lib.hid cA; have cB' := Lib.hid cB; have cC' := Lib.hid cC; have cU' := Lib.hid cU; have cN' := Lib.hid cN; have cLA' := Lib.hid cLA; have cLB' := Lib.hid cLB; have cLD' := Lib.hid cLD
  clear cA cB cC cU cN cLA cLB cLD h0 h1 h2 hT c1 c2 c3 x1 x2 x3 x4 x5 x6 x7 e1 e2 wD hno tl h h' hd hd' hl hl' hs hs'
  go_enter Try.func10, Try.ntmps10
  go_wp2_with fail
  refine (cOA.out _ _ H.out).mono ?_
  rintro e w1 ⟨x0, rfl, ho, hb⟩
  have H_1 := Lib.hid (H.out.ext hb)
  have K_1 := Lib.hid (K.out.ext hb)
  have X_1 := Lib.hid (Sl.of_own ho)
  have B_1 := Lib.hid hb
  clear hb ho H K
  go_wp2_with fail
  refine (cA'.out _ _ X_1.out).mono ?_
  rintro e w2 ⟨rfl, hb⟩
  have H_2 := Lib.hid (H_1.out.ext hb)
  have K_2 := Lib.hid (K_1.out.ext hb)
  have B_2 := Lib.hid (B_1.out.trans (hb.mono B_1.out.size))
  clear hb X_1 H_1 K_1 B_1
  go_wp2_with fail
  refine (cOB.out _ _ K_2.out).mono ?_
  rintro e w3 ⟨x2, rfl, ho, hb⟩
  have H_3 := Lib.hid (H_2.out.ext hb)
  have K_3 := Lib.hid (K_2.out.ext hb)
  have X_3 := Lib.hid (Sl.of_own ho)
  have B_3 := Lib.hid (B_2.out.trans (hb.mono B_2.out.size))
  clear hb ho H_2 K_2 B_2
  go_wp2_with fail
  refine (cB'.out _ _ X_3.out).mono ?_
  rintro e w4 ⟨rfl, hb⟩
  have H_4 := Lib.hid (H_3.out.ext hb)
  have K_4 := Lib.hid (K_3.out.ext hb)
  have B_4 := Lib.hid (B_3.out.trans (hb.mono B_3.out.size))
  clear hb X_3 H_3 K_3 B_3
  go_wp2_with fail
  refine (cOA.out _ _ H_4.out).mono ?_
  rintro e w5 ⟨x4, rfl, ho, hb⟩
  have H_5 := Lib.hid (H_4.out.ext hb)
  have K_5 := Lib.hid (K_4.out.ext hb)
  have X_5 := Lib.hid (Sl.of_own ho)
  have B_5 := Lib.hid (B_4.out.trans (hb.mono B_4.out.size))
  clear hb ho H_4 K_4 B_4
  go_wp2_with fail
  refine (cOB.out _ _ K_5.out).mono ?_
  rintro e w6 ⟨x5, rfl, ho, hb⟩
  have H_6 := Lib.hid (H_5.out.ext hb)
  have K_6 := Lib.hid (K_5.out.ext hb)
  have X_6 := Lib.hid (X_5.out.ext hb)
  have Y_6 := Lib.hid (Sl.of_own ho)
  have B_6 := Lib.hid (B_5.out.trans (hb.mono B_5.out.size))
  clear hb ho H_5 K_5 X_5 B_5
  go_wp2_with fail
  refine (cC'.out _ _ _ X_6.out Y_6.out).mono ?_
  rintro e w7 ⟨vd, rfl, ho, hb⟩
  have H_7 := Lib.hid (H_6.out.ext hb)
  have K_7 := Lib.hid (K_6.out.ext hb)
  have D_7 := Lib.hid (Sl.of_own ho)
  have B_7 := Lib.hid (B_6.out.trans (hb.mono B_6.out.size))
  clear hb ho X_6 Y_6 H_6 K_6 B_6
  go_wp2_with fail
  refine (cOD.out _ _ D_7.out).mono ?_
  rintro e w8 ⟨x7, rfl, ho, hb⟩
  have H_8 := Lib.hid (H_7.out.ext hb)
  have K_8 := Lib.hid (K_7.out.ext hb)
  have D_8 := Lib.hid (D_7.out.ext hb)
  have X_8 := Lib.hid (Sl.of_own ho)
  have B_8 := Lib.hid (B_7.out.trans (hb.mono B_7.out.size))
  clear hb ho H_7 K_7 D_7 B_7
  go_wp2_with fail
  refine (cU'.out _ _ X_8.out).mono ?_
  rintro e w9 ⟨rfl, hb⟩
  have H_9 := Lib.hid (H_8.out.ext hb)
  have K_9 := Lib.hid (K_8.out.ext hb)
  have D_9 := Lib.hid (D_8.out.ext hb)
  have B_9 := Lib.hid (B_8.out.trans (hb.mono B_8.out.size))
  clear hb X_8 H_8 K_8 D_8 B_8
  go_wp2_with fail
  refine (cN'.out _ _ D_9.out).mono ?_
  rintro e w10 ⟨rfl, hb⟩
  have H_10 := Lib.hid (H_9.out.ext hb)
  have K_10 := Lib.hid (K_9.out.ext hb)
  have D_10 := Lib.hid (D_9.out.ext hb)
  have B_10 := Lib.hid (B_9.out.trans (hb.mono B_9.out.size))
  clear hb H_9 K_9 D_9 B_9
  go_wp2_with fail
  refine (cLA'.out _ _ H_10.out).mono ?_
  rintro e w11 ⟨rfl, hb⟩
  have H_11 := Lib.hid (H_10.out.ext hb)
  have K_11 := Lib.hid (K_10.out.ext hb)
  have D_11 := Lib.hid (D_10.out.ext hb)
  have B_11 := Lib.hid (B_10.out.trans (hb.mono B_10.out.size))
  clear hb H_10 K_10 D_10 B_10
  go_wp2_with fail
  refine (cLB'.out _ _ K_11.out).mono ?_
  rintro e w12 ⟨rfl, hb⟩
  have H_12 := Lib.hid (H_11.out.ext hb)
  have K_12 := Lib.hid (K_11.out.ext hb)
  have D_12 := Lib.hid (D_11.out.ext hb)
  have B_12 := Lib.hid (B_11.out.trans (hb.mono B_11.out.size))
  clear hb H_11 K_11 D_11 B_11
  go_wp2_with fail
  refine (cLD'.out _ _ D_12.out).mono ?_
  rintro e w13 ⟨rfl, hb⟩
  have H_13 := Lib.hid (H_12.out.ext hb)
  have K_13 := Lib.hid (K_12.out.ext hb)
  have D_13 := Lib.hid (D_12.out.ext hb)
  have B_13 := Lib.hid (B_12.out.trans (hb.mono B_12.out.size))
  clear hb H_12 K_12 D_12 B_12
  go_wp2_with fail
  refine (cPA'.out _ _ H_13.out).mono ?_
  rintro e w14 ⟨va, rfl, ho, hb⟩
  have K_14 := Lib.hid (K_13.out.ext hb)
  have D_14 := Lib.hid (D_13.out.ext hb)
  have P_14 := Lib.hid (Sl.of_own ho)
  have B_14 := Lib.hid (B_13.out.trans (hb.mono B_13.out.size))
  clear hb ho H_13 K_13 D_13 B_13
  go_wp2_with fail
  refine (cPB'.out _ _ K_14.out).mono ?_
  rintro e w15 ⟨vb, rfl, ho, hb⟩
  have D_15 := Lib.hid (D_14.out.ext hb)
  have P_15 := Lib.hid (P_14.out.ext hb)
  have Q_15 := Lib.hid (Sl.of_own ho)
  have B_15 := Lib.hid (B_14.out.trans (hb.mono B_14.out.size))
  clear hb ho K_14 D_14 P_14 B_14
  go_wp2_with fail
  refine (cPD'.out _ _ D_15.out).mono ?_
  rintro e w16 ⟨vc, rfl, ho, hb⟩
  have P_16 := Lib.hid (P_15.out.ext hb)
  have Q_16 := Lib.hid (Q_15.out.ext hb)
  have R_16 := Lib.hid (Sl.of_own ho)
  have B_16 := Lib.hid (B_15.out.trans (hb.mono B_15.out.size))
  clear hb ho D_15 P_15 Q_15 B_15
  obtain ⟨AP, cP, hvP, -, hP3, -⟩ := id P_16.out
  obtain ⟨AQ, cQ, hvQ, -, hQ3, -⟩ := id Q_16.out
  obtain ⟨AR, cR, hvR, -, hR3, -⟩ := id R_16.out
  subst hvP hvQ hvR
  simp only [compA_len] at *
  have HP := P_16; have HQ := Q_16; have HR := R_16; have HB := B_16
  clear P_16 Q_16 R_16 B_16 cA' cB' cC' cU' cN' cLA' cLB' cLD' cPA' cPB' cPD' cOA cOB cOD
  generalize w16 = wq at *
  unfold maxLen at *
  go_wp2_with fail
  go_loopw [18] (fun i wr => ∃ k : Nat, k ≤ BB.length ∧ i = .int .i64 k ∧ Hid (Below wq.heap.size wq wr)) (fun i _ => BB.length - (intOf i).toNat)
  case atStart => exact ⟨0, by omega, rfl, Lib.hid (Below.refl _ _)⟩
  case round =>
    obtain ⟨k, hk, rfl, hW⟩ := hrel
    have hsz := hW.out.size
    by_cases hlt : k < BB.length
    · obtain ⟨b, off, cap', hv, hb, hc⟩ := HQ.out.int hlt
      obtain ⟨rfl, rfl⟩ : AQ = some ⟨b, off, none⟩ ∧ cQ = cap' := by injection hv with e1 e2 e3; exact ⟨e1, e3⟩
      have c0 := hc _ hW.out
      have hbw : b < wr.heap.size := Nat.lt_of_lt_of_le hb hsz
      have hkc : k < (compA AA BB).length := by rw [compA_len]; exact hlt
      obtain ⟨d, off2, cap2, hv2, hd2, hc2⟩ := HR.out.int hkc
      rw [compA_len] at hv2
      obtain ⟨rfl, rfl⟩ : AR = some ⟨d, off2, none⟩ ∧ cR = cap2 := by injection hv2 with e1 e2 e3; exact ⟨e1, e3⟩
      have g0 := hc2 _ hW.out
      have hdw : d < wr.heap.size := Nat.lt_of_lt_of_le hd2 hsz
      have hx := HIN.out BB[k] (List.getElem_mem hlt)
      have ge : (compA AA BB)[k] = if BB[k] < 0 then BB[k] else AA.getD BB[k].toNat 0 := by simp [compA]
      rw [ge] at g0
      clear hv hv2 hc hc2 ge hkc
      have n1 : decide ((AA.length : Int) ≤ BB[k]) = false := decide_eq_false (by omega)
      by_cases hn : BB[k] < 0
      · rw [if_pos hn] at g0
        have n2 : decide (0 ≤ BB[k]) = false := decide_eq_false (by omega)
        generalize BB[k] = x at *
        go_wp2_with fail
        go_roundw
        case rel => exact ⟨k + 1, by omega, by go_num, hW⟩
        case measure => simp [intOf]; omega
      · rw [if_neg hn] at g0
        obtain ⟨q, hq⟩ := Int.eq_ofNat_of_zero_le (show 0 ≤ BB[k] by omega)
        rw [hq] at c0 g0 hx n1
        have hqa : q < AA.length := by omega
        obtain ⟨f, off3, cap3, hv3, hf3, hc3⟩ := HP.out.int hqa
        obtain ⟨rfl, rfl⟩ : AP = some ⟨f, off3, none⟩ ∧ cP = cap3 := by injection hv3 with e1 e2 e3; exact ⟨e1, e3⟩
        have f0 := hc3 _ hW.out
        have hfw : f < wr.heap.size := Nat.lt_of_lt_of_le hf3 hsz
        have hge : AA.getD ((q : Int)).toNat 0 = AA[q] := by simp [List.getD_eq_getElem?_getD, hqa]
        rw [hge] at g0
        have hqi : (q : Int) < (AA.length : Int) := by omega
        clear hv3 hc3 hge hq hn
        generalize AA[q] = y at *
        go_wp2_with fail
        go_roundw
        case rel => exact ⟨k + 1, by omega, by go_num, hW⟩
        case measure => simp [intOf]; omega
    · go_wp2_with fail
      refine (known5_any _).mono ?_
      rintro e wz ⟨rfl, hbz⟩
      have BZ := Lib.hid (HB.out.trans ((hW.out.mono HB.out.size).trans (hbz.mono (Nat.le_trans HB.out.size hsz))))
      clear hbz
      go_wp2
      go_ret
      exact ⟨rfl, BZ.out⟩

end Go.Proofs.Ytdlbjfgpfjcpaaa