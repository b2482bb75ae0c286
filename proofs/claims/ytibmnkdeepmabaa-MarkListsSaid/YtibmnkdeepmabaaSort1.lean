/- cmp.Compare at int and uint32, cmp.Or at int, the function value of mark.Between: what they return. No condition. -/
import Derived.Test.YtibmnkdeepmabaaMark4
import Derived.Shelf.SlSortCmp.InsertionK
import Derived.Deep.RegionHeld3
namespace Go.Proofs.Ytibmnkdeepmabaa
open Go.RowKit Go.Sort

def cmpI (x y : Int) : Int := if x < y then -1 else if y < x then 1 else 0
/-- by position and then by ID -/
def cf9 (x y : Mk) : Int := if cmpI x.a y.a = 0 then cmpI x.id y.id else cmpI x.a y.a

set_option maxHeartbeats 400000 in
theorem isNaN_int (x : Int) (w : World) : Calls Try.prog 64 #[.int .i64 x] w fun e w' => e = .returned (.bool false) ∧ w' = w := by
  go_enter Try.func64, Try.ntmps64
  go_wp2
  go_ret
  exact ⟨by simp, rfl⟩
set_option maxHeartbeats 400000 in
theorem isNaN_u32 (x : Int) (w : World) : Calls Try.prog 65 #[.int .u32 x] w fun e w' => e = .returned (.bool false) ∧ w' = w := by
  go_enter Try.func65, Try.ntmps65
  go_wp2
  go_ret
  exact ⟨by simp, rfl⟩

set_option maxHeartbeats 1000000 in
theorem compare_int (x y : Int) (w : World) : Calls Try.prog 45 #[.int .i64 x, .int .i64 y] w fun e w' => e = .returned (.int .i64 (cmpI x y)) ∧ w' = w := by
  have c1 := fun (x : Int) (w : World) => isNaN_int x w
  by_cases h1 : x < y
  · have E := Lib.hid (show cmpI x y = -1 by rw [cmpI, if_pos h1])
    go_enter Try.func45, Try.ntmps45
    go_wp2_with (go_at_call 64; refine (c1 _ _).mono ?_; rintro e w' ⟨rfl, rfl⟩)
    go_ret
    exact ⟨by rw [E.out]; rfl, rfl⟩
  · by_cases h2 : y < x
    · have E := Lib.hid (show cmpI x y = 1 by rw [cmpI, if_neg h1, if_pos h2])
      go_enter Try.func45, Try.ntmps45
      go_wp2_with (go_at_call 64; refine (c1 _ _).mono ?_; rintro e w' ⟨rfl, rfl⟩)
      go_ret
      exact ⟨by rw [E.out]; rfl, rfl⟩
    · have E := Lib.hid (show cmpI x y = 0 by rw [cmpI, if_neg h1, if_neg h2])
      go_enter Try.func45, Try.ntmps45
      go_wp2_with (go_at_call 64; refine (c1 _ _).mono ?_; rintro e w' ⟨rfl, rfl⟩)
      go_ret
      exact ⟨by rw [E.out]; rfl, rfl⟩

set_option maxHeartbeats 1000000 in
theorem compare_u32 (x y : Int) (w : World) : Calls Try.prog 46 #[.int .u32 x, .int .u32 y] w fun e w' => e = .returned (.int .i64 (cmpI x y)) ∧ w' = w := by
  have c1 := fun (x : Int) (w : World) => isNaN_u32 x w
  by_cases h1 : x < y
  · have E := Lib.hid (show cmpI x y = -1 by rw [cmpI, if_pos h1])
    go_enter Try.func46, Try.ntmps46
    go_wp2_with (go_at_call 65; refine (c1 _ _).mono ?_; rintro e w' ⟨rfl, rfl⟩)
    go_ret
    exact ⟨by rw [E.out]; rfl, rfl⟩
  · by_cases h2 : y < x
    · have E := Lib.hid (show cmpI x y = 1 by rw [cmpI, if_neg h1, if_pos h2])
      go_enter Try.func46, Try.ntmps46
      go_wp2_with (go_at_call 65; refine (c1 _ _).mono ?_; rintro e w' ⟨rfl, rfl⟩)
      go_ret
      exact ⟨by rw [E.out]; rfl, rfl⟩
    · have E := Lib.hid (show cmpI x y = 0 by rw [cmpI, if_neg h1, if_neg h2])
      go_enter Try.func46, Try.ntmps46
      go_wp2_with (go_at_call 65; refine (c1 _ _).mono ?_; rintro e w' ⟨rfl, rfl⟩)
      go_ret
      exact ⟨by rw [E.out]; rfl, rfl⟩

set_option maxHeartbeats 1000000 in
theorem or_two (x y : Int) (b : Nat) (w : World) (h0 : w.cell? ⟨b, 0, none⟩ = some (.int .i64 x)) (h1 : w.cell? ⟨b, 1, none⟩ = some (.int .i64 y)) :
    Calls Try.prog 44 #[.slice (some ⟨b, 0, none⟩) 2 2] w fun e w' => e = .returned (.int .i64 (if x = 0 then y else x)) ∧ w' = w := by
  by_cases hx : x = 0
  · subst hx
    rw [if_pos rfl]
    by_cases hy : y = 0
    · subst hy
      go_enter Try.func44, Try.ntmps44
      go_wp2
      refine wp_loop_rounds 3 ?_
      rw [rounds_succ]
      go_wp2
      rw [rounds_succ]
      go_wp2
      rw [rounds_succ]
      go_wp2
      go_ret
      exact ⟨rfl, rfl⟩
    · have hy2 : (y != 0) = true := by simpa using hy
      go_enter Try.func44, Try.ntmps44
      go_wp2
      refine wp_loop_rounds 3 ?_
      rw [rounds_succ]
      go_wp2
      rw [rounds_succ]
      go_wp2
      go_ret
      exact ⟨rfl, rfl⟩
  · rw [if_neg hx]
    have hx2 : (x != 0) = true := by simpa using hx
    go_enter Try.func44, Try.ntmps44
    go_wp2
    refine wp_loop_rounds 3 ?_
    rw [rounds_succ]
    go_wp2
    go_ret
    exact ⟨rfl, rfl⟩

/-- a world that has grown, and drawn -/
def GW (w W : World) : Prop := ∃ (n : Nat) (os : Array Obj), W = grow (w.drewN n) os
theorem GW.alloc {w W : World} (h : GW w W) (o : Obj) : GW w (W.alloc o) := by
  obtain ⟨n, os, rfl⟩ := h
  exact ⟨n, os ++ #[o], by rw [alloc_eq_grow, grow_grow]⟩
theorem GW.drew {w W : World} (h : GW w W) : GW w W.drew := by
  obtain ⟨n, os, rfl⟩ := h
  exact ⟨n + 1, os, rfl⟩
theorem GW.refl (w : World) : GW w w := ⟨0, #[], by rw [grow_empty]; rfl⟩

end Go.Proofs.Ytibmnkdeepmabaa
