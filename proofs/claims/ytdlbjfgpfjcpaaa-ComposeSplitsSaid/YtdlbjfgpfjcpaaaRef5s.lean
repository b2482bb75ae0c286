/- quartoref05.Split: what it returns; compose.Split where there is an error. Condition: the pieces read as values of their types. -/
import Derived.Test.YtdlbjfgpfjcpaaaKnown5
import Derived.Test.YtdlbjfgpfjcpaaaRef4a
namespace Go.Proofs.Ytdlbjfgpfjcpaaa
open Go.RowKit

theorem ins_snoc_len (n : List Pc) (k : Nat) (h : k < n.length) : (insS (n.take (k + 1))).length = (insS (n.take k)).length + n[k].t.length := by rw [insS_snoc n k h, List.length_append]

set_option maxHeartbeats 8000000 in
set_option maxRecDepth 100000 in
theorem refSplit_fine (v : Value) (l : List Pc) (w : World) (h : Sl pcE w v l) (hd : ∀ p, p ∈ l → p.wf) (h0 : errL l = 0) :
    Calls Try.prog 34 #[v] w fun e w' => ∃ x y, e = .returned (.tuple #[x, y, .int .i64 (splE l)]) ∧ w'.ownsRow w.heap.size 31 3 x (if splE l = 0 then normS (splX l) else []).length (pcE.flat (if splE l = 0 then normS (splX l) else [])) ∧
      w'.ownsRow w.heap.size 31 3 y (if splE l = 0 then normS (splY l) else []).length (pcE.flat (if splE l = 0 then normS (splY l) else [])) ∧ Below w.heap.size w w' := by
  have hpre := formPre_of_lens h0
  have hv0 := ((errL_iff l).1 h0).2.1
  have cA := fun w h => refLengths_any v l w h hd
  have cN := fun w h => refForm_any v l w h hpre (fun p hp => hv0 p hp)
  rw [lensV_fine h0] at cA
  obtain ⟨i0, hi, hz0, hz1, hz2⟩ := info_parts infoPiece
  have hsE : splE l = if 1048576 < inL l + (insS l).length then 5 else 0 := by rw [splE, if_pos h0]
  have hi0 : 0 ≤ inL l := hv0.inL
  have hi1 : inL l ≤ 1048576 := ((errL_iff l).1 h0).2.2.1
  have hsum : (insS l).length ≤ 104857600000 := Nat.le_trans (insS_bd (l := l) (d := 1048576) (fun q hq => (hpre.2 q hq).2.2)) (Nat.le_trans (Nat.mul_le_mul_right _ hpre.1) (by decide))
  have hins : insS (formS l) = insS l := ins_form hv0
  have HF := Lib.hid (show ∀ p ∈ formS l, p.valid = true ∧ 0 ≤ p.n ∧ p.n ≤ 1048576 ∧ p.t.length ≤ 1048576 from fun p hp => by
    have e := (lens_formS h0).2
    have h1 := ((errL_iff _).1 e).2.1 p hp
    have h2 := (formPre_of_lens e).2 p hp
    exact ⟨h1, h2.1, h2.2.1, h2.2.2⟩)
  have hfl : (formS l).length ≤ 4096 := form4096 h0
  have HX := Lib.hid (show ∀ k (h : k < (formS l).length), (splX l).take (k + 1) = (splX l).take k ++ [splX1 (formS l)[k]] from fun k h => by
    unfold splX; rw [List.take_succ_eq_append_getElem (by simpa using h)]; simp)
  have HY := Lib.hid (show ∀ k (h : k < (formS l).length), (splY l).take (k + 1) = (splY l).take k ++ [splY1 (formS l)[k]] from fun k h => by
    unfold splY; rw [List.take_succ_eq_append_getElem (by simpa using h)]; simp)
  have HXl := Lib.hid (show (splX l).length = (formS l).length by simp [splX])
  have HYl := Lib.hid (show (splY l).length = (formS l).length by simp [splY])
  have HOK := Lib.hid (show inL l + ((insS l).length : Int) ≤ 1048576 → errL (splX l) = 0 ∧ errL (splY l) = 0 from fun h5 => spl_ok h0 (by omega))
  have HM := Lib.hid (fun k => ins_take (formS l) k)
  rw [hins] at HM
  have HS := Lib.hid (fun k h => ins_snoc_len (formS l) k h)
  have HI := Lib.hid (show (insS (formS l)).length = (insS l).length by rw [hins])
  have hnX : ∀ x, errL x = 0 → normS x = formS x := fun x hx => by rw [normS, if_pos hx]
  have HNX := Lib.hid hnX
  have H := Lib.hid h; have CA := Lib.hid cA; have CN := Lib.hid cN; have HSE := Lib.hid hsE
  clear h cA cN hd hpre hv0 h0 hins hnX hsE
  generalize hRX : (if splE l = 0 then normS (splX l) else []) = RX at *
  generalize hRY : (if splE l = 0 then normS (splY l) else []) = RY at *
  have HRX := Lib.hid hRX; have HRY := Lib.hid hRY
  clear hRX hRY
  generalize splE l = SE at *
  generalize formS l = N at *
  generalize splX l = XS at *
  generalize splY l = YS at *
  go_enter Try.func34, Try.ntmps34
  go_wp2_with fail
  refine (CA.out _ H.out).mono ?_
  rintro e w1 ⟨rfl, hb1⟩
  have H1 := Lib.hid (H.out.ext hb1); have B1 := Lib.hid hb1
  clear hb1 CA H
  generalize inL l = I at *
  generalize (insS l).length = M at *
  go_wp2_with fail
  refine (CN.out _ H1.out).mono ?_
  rintro e w2 ⟨v2, rfl, ho, hb⟩
  have B2 := Lib.hid (B1.out.trans (hb.mono B1.out.size))
  have HN := Lib.hid (Sl.of_own ho)
  clear hb ho B1 H1 CN
  obtain ⟨A2, cap2, rfl, -, hq3, -⟩ := id HN.out
  unfold maxLen at hq3
  have TR0 := Lib.hid (show TR w2 [] [] (.slice none 0 0) (.slice none 0 0) w2 from ⟨World.ownsRow_nil _ _ _ _, World.ownsRow_nil _ _ _ _, (fun g h => by cases h), Below.refl _ _⟩)
  go_wp2_with fail
  go_loopw [5, 9, 10, 11] (fun s vx vy i wr => ∃ (k : Nat) (X Y : List Pc) (A8 : Option Addr) (c8 : Nat) (A9 : Option Addr) (c9 : Nat), k ≤ N.length ∧ i = .int .i64 k ∧ s = .int .i64 (I + ((insS (N.take k)).length : Int)) ∧ vx = .slice A8 X.length c8 ∧ vy = .slice A9 Y.length c9 ∧ Hid (X = XS.take k ∧ Y = YS.take k) ∧ Hid (TR w2 X Y (.slice A8 X.length c8) (.slice A9 Y.length c9) wr)) (fun _ _ _ i _ => N.length - (intOf i).toNat)
  case atStart => exact ⟨0, [], [], _, _, _, _, by omega, rfl, by simp [insS], rfl, rfl, Lib.hid ⟨by simp, by simp⟩, TR0⟩
  case round =>
    obtain ⟨k, X, Y, A8, c8, A9, c9, hk, rfl, rfl, rfl, rfl, hXY, HT⟩ := hrel
    have hB := Lib.hid HT.out.b
    have hsz := hB.out.size
    by_cases hlt : k < N.length
    · have hXl : X.length ≤ 4096 := by rw [hXY.out.1, List.length_take]; omega
      have hYl : Y.length ≤ 4096 := by rw [hXY.out.2, List.length_take]; omega
      have hx1 := HX.out k hlt
      have hy1 := HY.out k hlt
      rw [← hXY.out.1] at hx1
      rw [← hXY.out.2] at hy1
      obtain ⟨b, off, cap', hv, hb, hcells⟩ := HN.out.pcB hlt
      obtain ⟨rfl, rfl⟩ : A2 = some ⟨b, off, none⟩ ∧ cap2 = cap' := by injection hv with e1 e2 e3; exact ⟨e1, e3⟩
      have HCL := Lib.hid hcells
      obtain ⟨c0, c1, c2⟩ := hcells _ hB.out
      have hbw : b < wr.heap.size := Nat.lt_of_lt_of_le hb hsz
      obtain ⟨q1, q2, q3, q4⟩ := HF.out N[k] (List.getElem_mem hlt)
      have m1 := HM.out k
      have m2 := HM.out (k + 1)
      have hs := HS.out k hlt
      rw [hs] at m2
      have HSk := Lib.hid hs
      have hvc := Pc.valid_cases q1
      clear hv hcells hs q1
      generalize N[k] = p at *
      generalize (insS (N.take k)).length = m at *
      obtain ⟨pk, pn, pt⟩ := p
      dsimp only at c0 c1 c2 q2 q3 q4 m2 hvc
      have hw : IntKind.i64.wrap (I + (m : Int) + (pt.length : Int)) = I + (m : Int) + (pt.length : Int) := IntWalk.i64_in _ (by omega)
      have hsum2 : I + (m : Int) + (pt.length : Int) = I + ((m + pt.length : Nat) : Int) := by omega
      have HS2 := Lib.hid hsum2
      clear hsum2 m1 m2 q2 q3 q4
      by_cases hp2 : pk = 2
      · have hp2' : (pk == 2) = true := by rw [hp2]; rfl
        have hn0 : pn = 0 := by omega
        have e1 : splX1 ⟨pk, pn, pt⟩ = ⟨pk, pn, pt⟩ := by unfold splX1; rw [if_neg (by dsimp only; omega)]
        have e2 : splY1 ⟨pk, pn, pt⟩ = ⟨1, pt.length, []⟩ := by unfold splY1; rw [if_neg (by dsimp only; omega)]; unfold keepP lg; dsimp only; rw [hn0]; simp
        rw [e1] at hx1
        rw [e2] at hy1
        have HX1 := Lib.hid hx1; have HY1 := Lib.hid hy1
        clear hx1 hy1 e1 e2 hvc hp2 hn0
        have hBs : w2.heap.size ≤ wr.heap.size := hsz
        go_wp2_with (at_builtin; refine Hid.out ?_)
        refine Lib.hid ?_
        refine wpListB_append _ rfl (.tmp 43) (.tmp 48) 22 22 rfl w2.heap.size (by simp; omega) 31 i0 _ 3 32 Try.underlying22 hi hz0 hz1 hz2 rfl (by decide) _ _ _ rfl ((HT.out.ext (bal (Below.refl _ _))).x) _ 1 _ rfl (src_one pcE Try.underlying22 (off := 0) ⟨pk, pn, pt⟩ _ (new_cells _ _ _)) (by unfold maxLen; omega) (by omega) ?_
        intro A6 c6 w6 hown hg hat _
        have HT6 := Lib.hid (TR.appX (X' := X ++ [⟨pk, pn, pt⟩]) (HT.out.ext (bal (Below.refl _ _))) (by rw [List.length_append, pcE.flat_append]; exact hown) hg hat)
        have hB6 := HT6.out.b
        have hs6 := hB6.size
        obtain ⟨d0, d1, d2⟩ := HCL.out _ hB6
        have hb6 : b < w6.heap.size := Nat.lt_of_lt_of_le hb hs6
        clear hown hg hat hB6 HT c0 c1 c2
        go_wp2_with (at_builtin; refine Hid.out ?_)
        refine Lib.hid ?_
        refine wpListB_append _ rfl (.tmp 50) (.tmp 58) 22 22 rfl w2.heap.size (by simp; omega) 31 i0 _ 3 32 Try.underlying22 hi hz0 hz1 hz2 rfl (by decide) _ _ _ rfl ((HT6.out.ext (bal (Below.refl _ _))).y) _ 1 _ rfl (src_one pcE Try.underlying22 (off := 0) ⟨1, pt.length, []⟩ _ (new_cells _ _ _)) (by unfold maxLen; omega) (by omega) ?_
        intro A7 c7 w7 hown hg hat _
        have HT7 := Lib.hid (TR.swap (TR.appX (X' := Y ++ [⟨1, pt.length, []⟩]) (TR.swap (HT6.out.ext (bal (Below.refl _ _)))) (by rw [List.length_append, pcE.flat_append]; exact hown) hg hat))
        clear hown hg hat HT6 d0 d1 d2
        go_wp2_with fail
        go_roundw
        case rel => exact ⟨k + 1, X ++ [⟨pk, pn, pt⟩], Y ++ [⟨1, pt.length, []⟩], A6, c6, A7, c7, by omega, by go_num, by rw [HSk.out, HS2.out], by simp, by simp, Lib.hid ⟨HX1.out.symm, HY1.out.symm⟩, Lib.hid (by rw [List.length_append, List.length_append]; exact HT7.out)⟩
        case measure => simp [intOf]; omega
      · have hp2' : (pk == 2) = false := by rw [beq_eq_false_iff_ne]; exact hp2
        have e1 : splX1 ⟨pk, pn, pt⟩ = ⟨1, pn, []⟩ := by
          unfold splX1 keepP lg
          rcases hvc with ⟨x, y, z⟩ | ⟨x, y, z⟩ | ⟨x, y, z⟩
          · rw [if_neg (by dsimp only; omega), z, x]
          · rw [if_pos (by dsimp only; omega), z]; simp
          · exact absurd x hp2
        have e2 : splY1 ⟨pk, pn, pt⟩ = ⟨pk, pn, pt⟩ := by
          unfold splY1 keepP lg
          rcases hvc with ⟨x, y, z⟩ | ⟨x, y, z⟩ | ⟨x, y, z⟩
          · rw [if_neg (by dsimp only; omega), z, x]; simp
          · rw [if_pos (by dsimp only; omega)]
          · exact absurd x hp2
        rw [e1] at hx1
        rw [e2] at hy1
        have HX1 := Lib.hid hx1; have HY1 := Lib.hid hy1
        clear hx1 hy1 e1 e2 hvc hp2
        have hBs : w2.heap.size ≤ wr.heap.size := hsz
        go_wp2_with (at_builtin; refine Hid.out ?_)
        refine Lib.hid ?_
        refine wpListB_append _ rfl (.tmp 60) (.tmp 67) 22 22 rfl w2.heap.size (by simp; omega) 31 i0 _ 3 32 Try.underlying22 hi hz0 hz1 hz2 rfl (by decide) _ _ _ rfl ((HT.out.ext (bal (Below.refl _ _))).x) _ 1 _ rfl (src_one pcE Try.underlying22 (off := 0) ⟨1, pn, []⟩ _ (new_cells _ _ _)) (by unfold maxLen; omega) (by omega) ?_
        intro A6 c6 w6 hown hg hat _
        have HT6 := Lib.hid (TR.appX (X' := X ++ [⟨1, pn, []⟩]) (HT.out.ext (bal (Below.refl _ _))) (by rw [List.length_append, pcE.flat_append]; exact hown) hg hat)
        have hB6 := HT6.out.b
        have hs6 := hB6.size
        obtain ⟨d0, d1, d2⟩ := HCL.out _ hB6
        have hb6 : b < w6.heap.size := Nat.lt_of_lt_of_le hb hs6
        clear hown hg hat hB6 HT c0 c1 c2
        go_wp2_with (at_builtin; refine Hid.out ?_)
        refine Lib.hid ?_
        refine wpListB_append _ rfl (.tmp 69) (.tmp 74) 22 22 rfl w2.heap.size (by simp; omega) 31 i0 _ 3 32 Try.underlying22 hi hz0 hz1 hz2 rfl (by decide) _ _ _ rfl ((HT6.out.ext (bal (Below.refl _ _))).y) _ 1 _ rfl (src_one pcE Try.underlying22 (off := 0) ⟨pk, pn, pt⟩ _ (new_cells _ _ _)) (by unfold maxLen; omega) (by omega) ?_
        intro A7 c7 w7 hown hg hat _
        have HT7 := Lib.hid (TR.swap (TR.appX (X' := Y ++ [⟨pk, pn, pt⟩]) (TR.swap (HT6.out.ext (bal (Below.refl _ _)))) (by rw [List.length_append, pcE.flat_append]; exact hown) hg hat))
        clear hown hg hat HT6 d0 d1 d2
        go_wp2_with fail
        go_roundw
        case rel => exact ⟨k + 1, X ++ [⟨1, pn, []⟩], Y ++ [⟨pk, pn, pt⟩], A6, c6, A7, c7, by omega, by go_num, by rw [HSk.out, HS2.out], by simp, by simp, Lib.hid ⟨HX1.out.symm, HY1.out.symm⟩, Lib.hid (by rw [List.length_append, List.length_append]; exact HT7.out)⟩
        case measure => simp [intOf]; omega
    · have hkN : N.take k = N := List.take_of_length_le (by omega)
      have hXe : X = XS := by rw [hXY.out.1]; exact List.take_of_length_le (by rw [HXl.out]; omega)
      have hYe : Y = YS := by rw [hXY.out.2]; exact List.take_of_length_le (by rw [HYl.out]; omega)
      subst hXe hYe
      have hIM : (insS (N.take k)).length = M := by rw [hkN, HI.out]
      rw [hIM]
      have B3 := Lib.hid (B2.out.trans (hB.out.mono B2.out.size))
      clear hkN hIM
      by_cases h5 : 1048576 < I + (M : Int)
      · have hSE : SE = 5 := by rw [HSE.out, if_pos h5]
        subst hSE
        have eRX : RX = [] := by rw [← HRX.out, if_neg (by omega)]
        have eRY : RY = [] := by rw [← HRY.out, if_neg (by omega)]
        subst eRX eRY
        clear HRX HRY HM HS HI HXl HYl HX HY HF TR0 HN HOK HNX HSE HT hXY hB
        go_wp2
        refine bodyPost_ret (v := .tuple #[.slice none 0 0, .slice none 0 0, .int .i64 5]) (by simp [results, Try.f34, go_sem]) rfl ⟨_, _, rfl, World.ownsRow_nil _ _ _ _, World.ownsRow_nil _ _ _ _, B3.out⟩
      · have hSE : SE = 0 := by rw [HSE.out, if_neg h5]
        subst hSE
        obtain ⟨eX, eY⟩ := HOK.out (by omega)
        have eRX : RX = formS X := by rw [← HRX.out, if_pos rfl, HNX.out X eX]
        have eRY : RY = formS Y := by rw [← HRY.out, if_pos rfl, HNX.out Y eY]
        subst eRX eRY
        have pX := formPre_of_lens eX
        have pY := formPre_of_lens eY
        have vX := ((errL_iff X).1 eX).2.1
        have vY := ((errL_iff Y).1 eY).2.1
        have cX := fun w x h => refForm_any x X w h pX (fun p hp => vX p hp)
        have cY := fun w x h => refForm_any x Y w h pY (fun p hp => vY p hp)
        have SX := Lib.hid (Sl.of_own HT.out.x); have SY := Lib.hid (Sl.of_own HT.out.y)
        have CX := Lib.hid cX; have CY := Lib.hid cY
        clear cX cY pX pY vX vY eX eY HRX HRY HM HS HI HXl HYl HX HY HF TR0 HN HOK HNX HSE HT hXY hB
        go_wp2_with fail
        refine (CX.out _ _ SX.out).mono ?_
        rintro e w4 ⟨v4, rfl, ho, hb⟩
        have O4 := Lib.hid (own_base (own_zero ho) (fun g hg => Nat.le_trans B3.out.size (ho.lt g hg).1)); have SY4 := Lib.hid (SY.out.ext hb); have B4 := Lib.hid (B3.out.trans (hb.mono B3.out.size))
        clear ho hb SX SY B3 CX
        go_wp2_with fail
        refine (CY.out _ _ SY4.out).mono ?_
        rintro e w5 ⟨v5, rfl, ho, hb⟩
        have O5 := Lib.hid (own_base (own_zero ho) (fun g hg => Nat.le_trans B4.out.size (ho.lt g hg).1)); have P5 := Lib.hid (own_keepB O4.out (Fr.of_below (T := fun _ => False) hb) (fun _ _ h => h.elim)); have B5 := Lib.hid (B4.out.trans (hb.mono B4.out.size))
        clear ho hb SY4 B4 CY O4
        go_wp2
        refine bodyPost_ret (v := .tuple #[v4, v5, .int .i64 0]) (by simp [results, Try.f34, go_sem]) rfl ⟨v4, v5, rfl, P5.out, O5.out, B5.out⟩

end Go.Proofs.Ytdlbjfgpfjcpaaa
