/- shift.look.moved, shift.Position, shift.Back, shift.Range: what they return. Condition: the pieces and numbers read as values of their types. -/
import Derived.Test.YtibmnkdeepmabaaRight
namespace Go.Proofs.Ytibmnkdeepmabaa
open Go.RowKit

/-- where a position moves, or the error: in a delta whose input and output lengths are n and m -/
def movE (x g n : Int) : Int := if g ≠ 0 ∧ g ≠ 1 then 2 else if x < 0 ∨ n < x then 3 else 0
def movV (t : Bool) (l : List Pc) (x g n m : Int) : Int := if movE x g n = 0 then (if g = 0 then leftP x 0 (runsT t l) else rightP x m (runsT t l)) else 0
def posE (l : List Pc) (x g : Int) : Int := if errL l = 0 then movE x g (inL l) else errL l
def posV (l : List Pc) (x g : Int) : Int := if errL l = 0 then movV false l x g (inL l) (outL l) else 0
def backE (l : List Pc) (x g : Int) : Int := if errL l = 0 then movE x g (outL l) else errL l
def backV (l : List Pc) (x g : Int) : Int := if errL l = 0 then movV true l x g (outL l) (inL l) else 0

theorem lensV_ok {l : List Pc} (h : errL l = 0) : lensV l = .tuple #[.int .i64 (inL l), .int .i64 (outL l), .int .i64 0] := by
  unfold lensV
  rw [lens_of_err h]
theorem mod_of {l : List Pc} (h : errL l = 0) : Mod l := ⟨((errL_iff l).1 h).2.1, formPre_of_lens h⟩
theorem mod_io {l : List Pc} (h : errL l = 0) : 0 ≤ inL l ∧ inL l ≤ 1048576 ∧ 0 ≤ outL l ∧ outL l ≤ 1048576 := by
  obtain ⟨h1, h2, h3, h4⟩ := (errL_iff l).1 h
  exact ⟨Val.inL h2, h3, Val.outL h2, h4⟩

set_option maxHeartbeats 1000000 in
set_option maxRecDepth 100000 in
theorem moved_any (v : Value) (l : List Pc) (t : Bool) (x g n m : Int) (w : World) (h : Sl pcE w v l) (hl : Mod l) (hn : n ≤ 10000000) :
    Calls Try.prog 57 #[.agg #[v, .bool t], .int .i64 x, .int .u8 g, .int .i64 n, .int .i64 m] w fun e w' => e = .returned (.tuple #[.int .i64 (movV t l x g n m), .int .i64 (movE x g n)]) ∧ Below w.heap.size w w' := by
  obtain ⟨A, cap, rfl, -, -, -⟩ := id h
  by_cases h1 : g ≠ 0 ∧ g ≠ 1
  · have e1 : movE x g n = 2 := by rw [movE, if_pos h1]
    have e2 : movV t l x g n m = 0 := by rw [movV, e1, if_neg (by omega)]
    have b1 : (g != 0) = true := by simpa using h1.1
    have b2 : (g != 1) = true := by simpa using h1.2
    have E1 := Lib.hid e1; have E2 := Lib.hid e2
    clear e1 e2 h1
    go_enter Try.func57, Try.ntmps57
    go_wp2
    go_ret2
    exact ⟨by rw [E1.out, E2.out]; rfl, (Below.refl _ _).alloc (Nat.le_refl _) _⟩
  · have hg : g = 0 ∨ g = 1 := by omega
    by_cases h2 : x < 0 ∨ n < x
    · have e1 : movE x g n = 3 := by rw [movE, if_neg h1, if_pos h2]
      have e2 : movV t l x g n m = 0 := by rw [movV, e1, if_neg (by omega)]
      have E1 := Lib.hid e1; have E2 := Lib.hid e2
      clear e1 e2 h1
      rcases hg with rfl | rfl
      all_goals
        by_cases h3 : x < 0
        · go_enter Try.func57, Try.ntmps57
          go_wp2
          go_ret2
          exact ⟨by rw [E1.out, E2.out]; rfl, (Below.refl _ _).alloc (Nat.le_refl _) _⟩
        · have h4 : n < x := by omega
          clear h2
          go_enter Try.func57, Try.ntmps57
          go_wp2
          go_ret2
          exact ⟨by rw [E1.out, E2.out]; rfl, (Below.refl _ _).alloc (Nat.le_refl _) _⟩
    · have e1 : movE x g n = 0 := by rw [movE, if_neg h1, if_neg h2]
      have e2 : movV t l x g n m = if g = 0 then leftP x 0 (runsT t l) else rightP x m (runsT t l) := by rw [movV, e1, if_pos rfl]
      have h3 : ¬ x < 0 := by omega
      have h4 : ¬ n < x := by omega
      have cL := fun w h => left_any (.slice A l.length cap) l t x w h hl (by omega) (by omega)
      have cR := fun w h => right_any (.slice A l.length cap) l t x m w h hl (by omega) (by omega)
      have hS := fun o => h.alloc o
      have CL := Lib.hid cL; have CR := Lib.hid cR; have E1 := Lib.hid e1; have HS := Lib.hid hS
      clear cL cR h1 h2 e1 hS
      rcases hg with rfl | rfl
      · rw [if_pos rfl] at e2
        have E2 := Lib.hid e2
        clear e2
        go_enter Try.func57, Try.ntmps57
        go_wp2_with fail
        refine (CL.out _ (HS.out _)).mono ?_
        rintro e w1 ⟨rfl, hb⟩
        go_wp2
        go_ret2
        exact ⟨by rw [E1.out, E2.out]; rfl, ((Below.refl _ _).alloc (Nat.le_refl _) _).trans (hb.mono (by simp))⟩
      · rw [if_neg (by omega)] at e2
        have E2 := Lib.hid e2
        clear e2
        go_enter Try.func57, Try.ntmps57
        go_wp2_with fail
        refine (CR.out _ (HS.out _)).mono ?_
        rintro e w1 ⟨rfl, hb⟩
        go_wp2
        go_ret2
        exact ⟨by rw [E1.out, E2.out]; rfl, ((Below.refl _ _).alloc (Nat.le_refl _) _).trans (hb.mono (by simp))⟩

set_option maxHeartbeats 1000000 in
set_option maxRecDepth 100000 in
theorem position_any (v : Value) (l : List Pc) (x g : Int) (w : World) (h : Sl pcE w v l) (hd : ∀ p, p ∈ l → p.wf) :
    Calls Try.prog 39 #[v, .int .i64 x, .int .u8 g] w fun e w' => e = .returned (.tuple #[.int .i64 (posV l x g), .int .i64 (posE l x g)]) ∧ Below w.heap.size w w' := by
  have hc := lengths_any v l w h hd
  obtain ⟨A, cap, rfl, -, -, -⟩ := id h
  by_cases h0 : errL l = 0
  · rw [lensV_ok h0] at hc
    have e1 : posE l x g = movE x g (inL l) := by rw [posE, if_pos h0]
    have e2 : posV l x g = movV false l x g (inL l) (outL l) := by rw [posV, if_pos h0]
    have cM := fun w h => moved_any (.slice A l.length cap) l false x g (inL l) (outL l) w h (mod_of h0) (by have := mod_io h0; omega)
    have Hc := Lib.hid hc; have E1 := Lib.hid e1; have E2 := Lib.hid e2; have CM := Lib.hid cM; have H := Lib.hid h
    clear hc e1 e2 cM h h0 hd
    go_enter Try.func39, Try.ntmps39
    go_wp2_with fail
    refine (Hc.out).mono ?_
    rintro e w1 ⟨rfl, hb1⟩
    have H1 := Lib.hid (H.out.ext hb1)
    go_wp2_with fail
    refine (CM.out _ H1.out).mono ?_
    rintro e w2 ⟨rfl, hb2⟩
    go_wp2
    go_ret2
    exact ⟨by rw [E1.out, E2.out]; rfl, hb1.trans (hb2.mono hb1.size)⟩
  · have hl := lens_err h0
    have e1 : posE l x g = errL l := by rw [posE, if_neg h0]
    have e2 : posV l x g = 0 := by rw [posV, if_neg h0]
    have hb : (errL l != 0) = true := by simpa using h0
    rw [show lensV l = .tuple #[.int .i64 0, .int .i64 0, .int .i64 (errL l)] by unfold lensV; rw [hl]; rfl] at hc
    generalize errL l = E at *
    have Hc := Lib.hid hc; have E1 := Lib.hid e1; have E2 := Lib.hid e2
    clear hc e1 e2 h hd hl h0
    go_enter Try.func39, Try.ntmps39
    go_wp2_with fail
    refine (Hc.out).mono ?_
    rintro e w1 ⟨rfl, hb1⟩
    go_wp2
    go_ret2
    exact ⟨by rw [E1.out, E2.out]; rfl, hb1⟩

def rngE (l : List Pc) (x y : Int) : Int := if errL l = 0 then (if x < 0 ∨ y < x ∨ inL l < y then 3 else 0) else errL l
def rngA (l : List Pc) (x y : Int) : Int := if rngE l x y = 0 then min (rightP x (outL l) (runsT false l)) (leftP y 0 (runsT false l)) else 0
def rngB (l : List Pc) (x y : Int) : Int := if rngE l x y = 0 then leftP y 0 (runsT false l) else 0

end Go.Proofs.Ytibmnkdeepmabaa
