/- quartoref04.Replace: the delta of a single edit, or the error. -/
import Derived.Test.YtpbnciioeiohlaaEdits
namespace Go.Proofs.Ytpbnciioeiohlaa
open Go.RowKit

theorem valid_of_err {l : List Pc} (h : errL l = 0) : ∀ p ∈ l, p.valid = true := by
  intro p hp
  obtain ⟨_, _, h3, _⟩ := lens_ok h
  exact (h3 p hp).1

set_option maxHeartbeats 8000000 in
set_option maxRecDepth 100000 in
theorem refReplace_any (n a k : Int) (t : List UInt8) (w : World) (hn : -9223372036854775808 ≤ n) (hn' : n ≤ 9223372036854775807) (ha : -9223372036854775808 ≤ a) (ha' : a ≤ 9223372036854775807) (hk : -9223372036854775808 ≤ k) (hk' : k ≤ 9223372036854775807) (ht : t.length ≤ 9223372036854775807) :
    Calls Try.prog 33 #[.int .i64 n, .int .i64 a, .int .i64 k, .string ⟨t.toArray⟩] w fun e w' => ∃ v', e = .returned (.tuple #[v', .int .i64 (replE n a k t)]) ∧ w'.ownsRow w.heap.size 38 3 v' (replS n a k t).length (pcE.flat (replS n a k t)) ∧ Below w.heap.size w w' := by
  by_cases hbad : replE n a k t = 0
  · have hS : replS n a k t = formS (replL n a k t) := by simp [replS, hbad]
    have hE := repl_err hbad
    have hbad' := hbad
    unfold replE at hbad'
    split at hbad'
    · cases hbad'
    split at hbad'
    · cases hbad'
    rename_i h1 h2
    clear hbad'
    have g1 : ¬ a < 0 := fun h => h1 (.inl h)
    have g2 : ¬ n < a := fun h => h1 (.inr (.inl h))
    have g3 : ¬ k < 0 := fun h => h1 (.inr (.inr (.inl h)))
    have g4 : ¬ n - a < k := fun h => h1 (.inr (.inr (.inr h)))
    have g5 : ¬ 1048576 < n := fun h => h2 (.inl h)
    have g6 : ¬ 1048576 - (n - k) < (t.length : Int) := fun h => h2 (.inr h)
    have Hb := Lib.hid hbad; have HS := Lib.hid hS; have HE := Lib.hid hE
    clear hbad hS hE h1 h2
    obtain ⟨i0, hi, hz0, hz1, hz2⟩ := info_parts infoPiece
    have hoo0 : Hid (w.ownsRow w.heap.size 38 3 (.slice none 0 0) 0 (pcE.flat [])) := Lib.hid (World.ownsRow_nil _ _ _ _)
    have hb0 : Hid (Below w.heap.size w w) := Lib.hid (Below.refl _ _)
    go_enter Try.func33, Try.ntmps33
    go_upto_if 41 with (fail)
    go_cut [10] (fun s3 wc => ∃ (out1 : List Pc) (A1 : Option Addr) (c1 : Nat), Hid (out1 = putP [] ⟨1, a, []⟩) ∧ out1.length ≤ 1 ∧ s3 = .slice A1 out1.length c1 ∧ Hid (wc.ownsRow w.heap.size 38 3 (.slice A1 out1.length c1) out1.length (pcE.flat out1)) ∧ Hid (Below w.heap.size w wc))
    case first =>
      by_cases hc : 0 < a
      · have hput : putP [] ⟨1, a, []⟩ = [] ++ [⟨1, a, []⟩] := by unfold putP; rw [if_pos (.inl hc)]
        have Hput := Lib.hid hput; clear hput
        go_wp2_with (at_builtin; refine Hid.out ?_)
        refine Lib.hid ?_
        refine wpListB_append _ rfl (.tmp 42) (.tmp 45) 22 22 rfl w.heap.size (by simp) 38 i0 _ 3 32 Try.underlying22 hi hz0 hz1 hz2 rfl (by decide) _ _ _ rfl (hoo0.out.alloc _) _ 1 _ rfl (src_one pcE Try.underlying22 (off := 0) ⟨1, a, []⟩ _ ?_) ?_ ?_ ?_
        · exact new_cells _ _ _
        · unfold maxLen; omega
        · omega
        intro A1 c1 w7 hown7 hg7 _ _
        have Hown := Lib.hid hown7; have Hg := Lib.hid hg7
        clear hown7 hg7
        go_wp2
        go_meet
        case rel =>
          refine ⟨[] ++ [⟨1, a, []⟩], A1, c1, Lib.hid Hput.out.symm, by simp, by simp, Lib.hid ?_, Lib.hid ((hb0.out.alloc hb0.out.size _).grown Hg.out (by simp) (fun g hg => (hoo0.out.lt g hg).1))⟩
          rw [List.length_append, pcE.flat_append]
          exact Hown.out
      · have hput : putP [] ⟨1, a, []⟩ = [] := by unfold putP; rw [if_neg (by simp; omega)]
        have Hput := Lib.hid hput; clear hput
        go_wp2
        go_meet
        case rel => exact ⟨[], none, 0, Lib.hid Hput.out.symm, by first | omega | simp, rfl, hoo0, hb0⟩
    case rest =>
      obtain ⟨out1, A1, c1, ho1, hl1, rfl, hoo1, hb1⟩ := hcut
      go_upto_if 48 with (fail)
      go_cut [10] (fun s3 wc => ∃ (out2 : List Pc) (A2 : Option Addr) (c2 : Nat), Hid (out2 = putP out1 ⟨2, 0, t⟩) ∧ out2.length ≤ 2 ∧ s3 = .slice A2 out2.length c2 ∧ Hid (wc.ownsRow w.heap.size 38 3 (.slice A2 out2.length c2) out2.length (pcE.flat out2)) ∧ Hid (Below w.heap.size w wc))
      case first =>
        by_cases hc : t ≠ []
        · obtain ⟨x, r, rfl⟩ := List.exists_cons_of_ne_nil hc
          have hput : putP out1 ⟨2, 0, x :: r⟩ = out1 ++ [⟨2, 0, x :: r⟩] := by unfold putP; rw [if_pos (.inr hc)]
          clear hc
          have Hput := Lib.hid hput; clear hput
          go_wp2_with (at_builtin; refine Hid.out ?_)
          refine Lib.hid ?_
          refine wpListB_append _ rfl (.tmp 49) (.tmp 52) 22 22 rfl w.heap.size (by have := hb1.out.size; simp; omega) 38 i0 _ 3 32 Try.underlying22 hi hz0 hz1 hz2 rfl (by decide) _ _ _ rfl (hoo1.out.alloc _) _ 1 _ rfl (src_one pcE Try.underlying22 (off := 0) ⟨2, 0, x :: r⟩ _ ?_) ?_ ?_ ?_
          · exact new_cells _ _ _
          · unfold maxLen; omega
          · omega
          intro A2 c2 w7 hown7 hg7 _ _
          have Hown := Lib.hid hown7; have Hg := Lib.hid hg7
          clear hown7 hg7
          go_wp2
          go_meet
          case rel =>
            refine ⟨out1 ++ [⟨2, 0, x :: r⟩], A2, c2, Lib.hid Hput.out.symm, by simp; omega, by simp, Lib.hid ?_, Lib.hid ((hb1.out.alloc hb1.out.size _).grown Hg.out (by have := hb1.out.size; simp; omega) (fun g hg => (hoo1.out.lt g hg).1))⟩
            rw [List.length_append, pcE.flat_append]
            exact Hown.out
        · have htn : t = [] := by apply Classical.byContradiction; exact hc
          subst htn
          have hput : putP out1 ⟨2, 0, []⟩ = out1 := by unfold putP; rw [if_neg (by simp)]
          have Hput := Lib.hid hput; clear hput hc
          go_wp2
          go_meet
          case rel => exact ⟨out1, A1, c1, Lib.hid Hput.out.symm, by first | omega | simp, rfl, hoo1, hb1⟩
      case rest =>
        obtain ⟨out2, A2, c2, ho2, hl2, rfl, hoo2, hb2⟩ := hcut
        go_upto_if 55 with (fail)
        go_cut [10] (fun s3 wc => ∃ (out3 : List Pc) (A3 : Option Addr) (c3 : Nat), Hid (out3 = putP out2 ⟨3, k, []⟩) ∧ out3.length ≤ 3 ∧ s3 = .slice A3 out3.length c3 ∧ Hid (wc.ownsRow w.heap.size 38 3 (.slice A3 out3.length c3) out3.length (pcE.flat out3)) ∧ Hid (Below w.heap.size w wc))
        case first =>
          by_cases hc : 0 < k
          · have hput : putP out2 ⟨3, k, []⟩ = out2 ++ [⟨3, k, []⟩] := by unfold putP; rw [if_pos (.inl hc)]
            have Hput := Lib.hid hput; clear hput
            go_wp2_with (at_builtin; refine Hid.out ?_)
            refine Lib.hid ?_
            refine wpListB_append _ rfl (.tmp 56) (.tmp 59) 22 22 rfl w.heap.size (by have := hb2.out.size; simp; omega) 38 i0 _ 3 32 Try.underlying22 hi hz0 hz1 hz2 rfl (by decide) _ _ _ rfl (hoo2.out.alloc _) _ 1 _ rfl (src_one pcE Try.underlying22 (off := 0) ⟨3, k, []⟩ _ ?_) ?_ ?_ ?_
            · exact new_cells _ _ _
            · unfold maxLen; omega
            · omega
            intro A3 c3 w7 hown7 hg7 _ _
            have Hown := Lib.hid hown7; have Hg := Lib.hid hg7
            clear hown7 hg7
            go_wp2
            go_meet
            case rel =>
              refine ⟨out2 ++ [⟨3, k, []⟩], A3, c3, Lib.hid Hput.out.symm, by simp; omega, by simp, Lib.hid ?_, Lib.hid ((hb2.out.alloc hb2.out.size _).grown Hg.out (by have := hb2.out.size; simp; omega) (fun g hg => (hoo2.out.lt g hg).1))⟩
              rw [List.length_append, pcE.flat_append]
              exact Hown.out
          · have hput : putP out2 ⟨3, k, []⟩ = out2 := by unfold putP; rw [if_neg (by simp; omega)]
            have Hput := Lib.hid hput; clear hput
            go_wp2
            go_meet
            case rel => exact ⟨out2, A2, c2, Lib.hid Hput.out.symm, by first | omega | simp, rfl, hoo2, hb2⟩
        case rest =>
          obtain ⟨out3, A3, c3, ho3, hl3, rfl, hoo3, hb3⟩ := hcut
          go_upto_if 65 with (fail)
          go_cut [10] (fun s3 wc => ∃ (out4 : List Pc) (A4 : Option Addr) (c4 : Nat), Hid (out4 = putP out3 ⟨1, n - a - k, []⟩) ∧ out4.length ≤ 4 ∧ s3 = .slice A4 out4.length c4 ∧ Hid (wc.ownsRow w.heap.size 38 3 (.slice A4 out4.length c4) out4.length (pcE.flat out4)) ∧ Hid (Below w.heap.size w wc))
          case first =>
            by_cases hc : 0 < n - a - k
            · have hput : putP out3 ⟨1, n - a - k, []⟩ = out3 ++ [⟨1, n - a - k, []⟩] := by unfold putP; rw [if_pos (.inl hc)]
              have hc2 : a + k < n := by omega
              clear hc
              have Hput := Lib.hid hput; clear hput
              go_wp2_with (at_builtin; refine Hid.out ?_)
              refine Lib.hid ?_
              refine wpListB_append _ rfl (.tmp 66) (.tmp 73) 22 22 rfl w.heap.size (by have := hb3.out.size; simp; omega) 38 i0 _ 3 32 Try.underlying22 hi hz0 hz1 hz2 rfl (by decide) _ _ _ rfl (hoo3.out.alloc _) _ 1 _ rfl (src_one pcE Try.underlying22 (off := 0) ⟨1, n - a - k, []⟩ _ ?_) ?_ ?_ ?_
              · exact new_cells _ _ _
              · unfold maxLen; omega
              · omega
              intro A4 c4 w7 hown7 hg7 _ _
              have Hown := Lib.hid hown7; have Hg := Lib.hid hg7
              clear hown7 hg7
              go_wp2
              go_meet
              case rel =>
                refine ⟨out3 ++ [⟨1, n - a - k, []⟩], A4, c4, Lib.hid Hput.out.symm, by simp; omega, by simp, Lib.hid ?_, Lib.hid ((hb3.out.alloc hb3.out.size _).grown Hg.out (by have := hb3.out.size; simp; omega) (fun g hg => (hoo3.out.lt g hg).1))⟩
                rw [List.length_append, pcE.flat_append]
                exact Hown.out
            · have hput : putP out3 ⟨1, n - a - k, []⟩ = out3 := by unfold putP; rw [if_neg (by simp; omega)]
              have Hput := Lib.hid hput; clear hput
              have hc2 : ¬ a + k < n := by omega
              clear hc
              go_wp2
              go_meet
              case rel => exact ⟨out3, A3, c3, Lib.hid Hput.out.symm, by first | omega | simp, rfl, hoo3, hb3⟩
          case rest =>
            obtain ⟨out4, A4, c4, ho4, hl4, rfl, hoo4, hb4⟩ := hcut
            have hL : out4 = replL n a k t := by unfold replL; rw [ho4.out, ho3.out, ho2.out, ho1.out]
            subst hL
            clear ho1 ho2 ho3 ho4
            have hS4 := Sl.of_own (own_zero hoo4.out)
            have HS4 := Lib.hid hS4; clear hS4
            go_wp2_with fail
            refine (refForm_any _ _ _ HS4.out (formPre_of_lens HE.out) (valid_of_err HE.out)).mono ?_
            rintro e w5 ⟨v5, rfl, ho5, hb5⟩
            go_wp2
            go_ret2
            refine ⟨v5, by rw [Hb.out]; rfl, by rw [HS.out]; exact own_base (own_zero ho5) (fun g hg => Nat.le_trans hb4.out.size (ho5.lt g hg).1), hb4.out.trans (hb5.mono hb4.out.size)⟩
  · have hS : replS n a k t = [] := by simp [replS, hbad]
    have hor := hbad
    unfold replE at hor
    by_cases h1 : a < 0 ∨ n < a ∨ k < 0 ∨ n - a < k
    · have h3 : replE n a k t = 3 := by simp [replE, h1]
      have HS := Lib.hid hS; have H3 := Lib.hid h3
      clear hS h3 hor hbad
      by_cases g1 : a < 0
      · clear h1
        go_enter Try.func33, Try.ntmps33
        go_wp2
        go_ret2
        exact ⟨_, by rw [H3.out]; rfl, by rw [HS.out]; exact World.ownsRow_nil _ _ _ _, Below.refl _ _⟩
      by_cases g2 : n < a
      · clear h1
        go_enter Try.func33, Try.ntmps33
        go_wp2
        go_ret2
        exact ⟨_, by rw [H3.out]; rfl, by rw [HS.out]; exact World.ownsRow_nil _ _ _ _, Below.refl _ _⟩
      by_cases g3 : k < 0
      · clear h1
        go_enter Try.func33, Try.ntmps33
        go_wp2
        go_ret2
        exact ⟨_, by rw [H3.out]; rfl, by rw [HS.out]; exact World.ownsRow_nil _ _ _ _, Below.refl _ _⟩
      · have g4 : n - a < k := by omega
        clear h1
        go_enter Try.func33, Try.ntmps33
        go_wp2
        go_ret2
        exact ⟨_, by rw [H3.out]; rfl, by rw [HS.out]; exact World.ownsRow_nil _ _ _ _, Below.refl _ _⟩
    · rw [if_neg h1] at hor
      have h2 : 1048576 < n ∨ 1048576 - (n - k) < (t.length : Int) := by
        apply Classical.byContradiction
        intro h; rw [if_neg h] at hor; exact hor rfl
      have h3 : replE n a k t = 5 := by simp only [replE]; rw [if_neg h1, if_pos h2]
      have HS := Lib.hid hS; have H3 := Lib.hid h3
      clear hS h3 hor hbad
      have g1 : ¬ a < 0 := fun h => h1 (.inl h)
      have g2 : ¬ n < a := fun h => h1 (.inr (.inl h))
      have g3 : ¬ k < 0 := fun h => h1 (.inr (.inr (.inl h)))
      have g4 : ¬ n - a < k := fun h => h1 (.inr (.inr (.inr h)))
      clear h1
      by_cases g5 : 1048576 < n
      · clear h2
        go_enter Try.func33, Try.ntmps33
        go_wp2
        go_ret2
        exact ⟨_, by rw [H3.out]; rfl, by rw [HS.out]; exact World.ownsRow_nil _ _ _ _, Below.refl _ _⟩
      · have g6 : 1048576 - (n - k) < (t.length : Int) := by omega
        clear h2
        go_enter Try.func33, Try.ntmps33
        go_wp2
        go_ret2
        exact ⟨_, by rw [H3.out]; rfl, by rw [HS.out]; exact World.ownsRow_nil _ _ _ _, Below.refl _ _⟩

end Go.Proofs.Ytpbnciioeiohlaa

