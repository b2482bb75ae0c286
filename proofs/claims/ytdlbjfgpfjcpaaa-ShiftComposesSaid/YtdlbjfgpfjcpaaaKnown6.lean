/- quartolaw06.own and known: what they return. Condition: the pieces read as values of their type. -/
import Derived.Test.YtdlbjfgpfjcpaaaRef6c
import Derived.Test.YtdlbjfgpfjcpaaaExtent
namespace Go.Proofs.Ytdlbjfgpfjcpaaa
open Go.RowKit

set_option maxHeartbeats 1000000 in
set_option maxRecDepth 100000 in
theorem own6_any (v : Value) (l : List Pc) (w : World) (h : Sl pcE w v l) (hl : l.length * 32 ≤ 140737488355328) :
    Calls Try.prog 42 #[v] w fun e w' => ∃ v', e = .returned v' ∧ w'.ownsRow w.heap.size 31 3 v' l.length (pcE.flat l) ∧ Below w.heap.size w w' := by
  obtain ⟨i0, hi, hz0, hz1, hz2⟩ := info_parts infoPiece
  have Hl := Lib.hid hl; clear hl
  obtain ⟨A, cap, rfl, -, -, -⟩ := id h
  go_enter Try.func42, Try.ntmps42
  go_wp2_with (
    at_builtin
    refine wpList_append _ rfl (.tmp 3) (.tmp 4) 22 22 rfl 31 i0 _ 3 32 Try.underlying22 hi hz0 hz1 hz2 rfl (by decide) _ _ _ rfl (World.ownsRow_made w #[] 0 (Nat.zero_le _) (by simp [maxLen]) (by simp)) _ _ _ rfl ((h.alloc _).src Try.underlying22) ?_ ?_ ?_
    · have := Hl.out; unfold maxLen; omega
    · have := Hl.out; omega
    intro A5 c5 w5 hown5 hg5 hat5 _)
  go_ret
  refine ⟨_, rfl, ?_, ((Below.refl _ _).alloc (Nat.le_refl _) _).grown hg5 (by simp) (fun k hk => ?_)⟩
  · have h1 := own_base (B := w.heap.size) hown5 (fun g hg => by
      rcases hat5 with e | e
      · have h9 : some w.heap.size = some g := e.symm.trans hg
        injection h9 with h9
        omega
      · have h9 : some (w.heap.size + 1) = some g := (e.trans (by simp)).symm.trans hg
        injection h9 with h9
        omega)
    simpa using h1
  · have h9 : some w.heap.size = some k := hk
    injection h9 with h9
    omega

def d6 : List Pc := [⟨1, 2, []⟩, ⟨2, 0, [120, 121, 122]⟩, ⟨3, 2, []⟩, ⟨1, 1, []⟩]
theorem sl_new (w : World) (l : List Pc) (t : TypeId) (h : l.length ≤ maxLen) : Sl pcE (w.alloc (.cells (pcE.flat l).toArray t)) (.slice (some ⟨w.heap.size, 0, none⟩) l.length l.length) l := by
  refine ⟨_, _, rfl, Nat.le_refl _, h, fun _ => ⟨_, _, rfl, by simp, fun i j x u hx hu => ?_⟩⟩
  rw [Lib.cell_of_heap (heap_alloc_new w _), Nat.zero_add]
  simpa using pcE.flat_at l i j x u hx hu
theorem wf_ok {l : List Pc} (h : errL l = 0) : ∀ p, p ∈ l → p.wf := by
  intro p hp
  obtain ⟨-, -, h3, -⟩ := lens_ok h
  obtain ⟨x, y, z⟩ := h3 p hp
  obtain ⟨a, b, c⟩ := Pc.n_of_valid x y z
  rcases Pc.valid_cases x with ⟨k, _, _⟩ | ⟨k, _, _⟩ | ⟨k, _, _⟩ <;> exact ⟨by omega, by omega, by omega, by omega, by omega⟩
theorem e6 : errL d6 = 0 := by decide
theorem w6 : ∀ p, p ∈ d6 → p.wf := wf_ok e6
theorem q1 : posV d6 3 0 = 2 ∧ posE d6 3 0 = 0 := by decide
theorem q2 : posV d6 2 1 = 5 ∧ posE d6 2 1 = 0 := by decide
theorem q3 : posE d6 6 0 = 3 := by decide
theorem q4 : backV d6 3 1 = 4 ∧ backE d6 3 1 = 0 := by decide
theorem q5 : keptV d6 4 = .tuple #[.int .i64 5, .bool true, .int .i64 0] := by
  have h1 : keptR d6 4 = some 5 := by decide
  have h2 : keptE d6 4 = 0 := by decide
  rw [keptV, h1, h2]
  rfl
theorem q6 : rngA d6 2 4 = 2 ∧ rngB d6 2 4 = 2 ∧ rngE d6 2 4 = 0 := by decide
theorem q7 : extV d6 = exV ⟨2, 4, 2, 5⟩ 0 := by
  have hf : formS d6 = d6 := (sameB_iff _ _).1 (by decide)
  rw [extV_ok e6 (by rw [hf, idle_at (by decide)]; decide), hf]
  have h1 : headN d6 = 2 := by decide
  have h2 : lastN d6 = 1 := by decide
  have h3 : inL d6 = 5 := by decide
  have h4 : outL d6 = 6 := by decide
  rw [extOf, h1, h2, h3, h4]
  rfl

set_option maxHeartbeats 4000000 in
set_option maxRecDepth 100000 in
theorem known6_any (w : World) :
    Calls Try.prog 43 #[] w fun e w' => e = .returned (.bool true) ∧ Below w.heap.size w w' := by
  have S0 := Lib.hid (sl_new w d6 31 (by decide))
  have B0 := Lib.hid ((Below.refl w.heap.size w).alloc (Nat.le_refl _) (.cells (pcE.flat d6).toArray 31))
  have c1 := fun w x h => position_any x d6 3 0 w h w6
  have c2 := fun w x h => position_any x d6 2 1 w h w6
  have c3 := fun w x h => position_any x d6 6 0 w h w6
  have c4 := fun w x h => back_any x d6 3 1 w h w6
  have c5 := fun w x h => kept_any x d6 4 w h w6
  have c6 := fun w x h => range_any x d6 2 4 w h w6
  have c7 := fun w x h => extent_any x d6 w h w6
  simp only [q1.1, q1.2] at c1
  simp only [q2.1, q2.2] at c2
  simp only [q3] at c3
  simp only [q4.1, q4.2] at c4
  simp only [q5] at c5
  simp only [q6.1, q6.2.1, q6.2.2] at c6
  simp only [q7, exV] at c7
  generalize posV d6 6 0 = z3 at *
  have C1 := Lib.hid c1; have C2 := Lib.hid c2; have C3 := Lib.hid c3; have C4 := Lib.hid c4; have C5 := Lib.hid c5; have C6 := Lib.hid c6; have C7 := Lib.hid c7
  clear c1 c2 c3 c4 c5 c6 c7
  go_enter Try.func43, Try.ntmps43
  go_wp2_with fail
  refine (C1.out _ _ S0.out).mono ?_
  rintro e w1 ⟨rfl, hb⟩
  have S_1 := Lib.hid (S0.out.ext hb)
  have B_1 := Lib.hid (B0.out.trans (hb.mono B0.out.size))
  clear hb S0 B0
  go_wp2_with fail
  refine (C2.out _ _ S_1.out).mono ?_
  rintro e w2 ⟨rfl, hb⟩
  have S_2 := Lib.hid (S_1.out.ext hb)
  have B_2 := Lib.hid (B_1.out.trans (hb.mono B_1.out.size))
  clear hb S_1 B_1
  go_wp2_with fail
  refine (C3.out _ _ S_2.out).mono ?_
  rintro e w3 ⟨rfl, hb⟩
  have S_3 := Lib.hid (S_2.out.ext hb)
  have B_3 := Lib.hid (B_2.out.trans (hb.mono B_2.out.size))
  clear hb S_2 B_2
  go_wp2_with fail
  refine (C4.out _ _ S_3.out).mono ?_
  rintro e w4 ⟨rfl, hb⟩
  have S_4 := Lib.hid (S_3.out.ext hb)
  have B_4 := Lib.hid (B_3.out.trans (hb.mono B_3.out.size))
  clear hb S_3 B_3
  go_wp2_with fail
  refine (C5.out _ _ S_4.out).mono ?_
  rintro e w5 ⟨rfl, hb⟩
  have S_5 := Lib.hid (S_4.out.ext hb)
  have B_5 := Lib.hid (B_4.out.trans (hb.mono B_4.out.size))
  clear hb S_4 B_4
  go_wp2_with fail
  refine (C6.out _ _ S_5.out).mono ?_
  rintro e w6 ⟨rfl, hb⟩
  have S_6 := Lib.hid (S_5.out.ext hb)
  have B_6 := Lib.hid (B_5.out.trans (hb.mono B_5.out.size))
  clear hb S_5 B_5
  go_wp2_with fail
  refine (C7.out _ _ S_6.out).mono ?_
  rintro e w7 ⟨rfl, hb⟩
  have S_7 := Lib.hid (S_6.out.ext hb)
  have B_7 := Lib.hid (B_6.out.trans (hb.mono B_6.out.size))
  clear hb S_6 B_6
  go_wp2
  go_ret
  exact ⟨rfl, B_7.out⟩

end Go.Proofs.Ytdlbjfgpfjcpaaa
