/- measure.Of and measure.Add: what they return. No condition but sizes. -/
import Derived.Test.YtclmjnobacepjaaGreatJ02
import Derived.IntWalk
import Derived.Outline
namespace Go.Proofs.YtclmjnobacepjaaGreat
open Go.RowKit

theorem every_any (c : UInt8) (w : World) : Calls Tryz.prog 110 #[.int .u8 (c.toNat : Int)] w fun e w' => e = .returned (.bool (everyB c)) ∧ w' = w := by
  go_enter Tryz.func110, Tryz.ntmps110
  go_wp2
  go_ret
  exact ⟨rfl, rfl⟩
theorem begins_any (c : UInt8) (w : World) : Calls Tryz.prog 111 #[.int .u8 (c.toNat : Int)] w fun e w' => e = .returned (.bool (beginsB c)) ∧ w' = w := by
  unfold beginsB
  by_cases h : (c.toNat : Int) < 128
  · go_enter Tryz.func111, Tryz.ntmps111
    go_wp2
    go_ret
    exact ⟨by rw [decide_eq_true h]; simp, rfl⟩
  · go_enter Tryz.func111, Tryz.ntmps111
    go_wp2
    go_ret
    exact ⟨by rw [decide_eq_false (by omega : ¬ (c.toNat : Int) < 128)]; simp, rfl⟩
theorem feeds_any (c : UInt8) (w : World) : Calls Tryz.prog 112 #[.int .u8 (c.toNat : Int)] w fun e w' => e = .returned (.bool (feedsB c)) ∧ w' = w := by
  unfold feedsB
  go_enter Tryz.func112, Tryz.ntmps112
  go_wp2
  go_ret
  exact ⟨rfl, rfl⟩

set_option maxHeartbeats 400000 in
set_option maxRecDepth 100000 in
theorem count_every (T : List UInt8) (hT : T.length ≤ 1000000) (w : World) :
    Calls Tryz.prog 113 #[.string ⟨T.toArray⟩, .func (.func 110) #[] #[]] w fun e w' => e = .returned (.int .i64 (cntB everyB T)) ∧ w' = w := by
  go_enter Tryz.func113, Tryz.ntmps113
  go_wp2_with fail
  go_loop [5, 9] (fun n i => ∃ k : Nat, k ≤ T.length ∧ i = .int .i64 k ∧ n = .int .i64 (cntB everyB (T.take k))) (fun _ i => T.length - (intOf i).toNat)
  case atStart => exact ⟨0, Nat.zero_le _, rfl, rfl⟩
  case round =>
    obtain ⟨k, hk, rfl, rfl⟩ := hrel
    have hl := cntB_le everyB (T.take k)
    rw [List.length_take] at hl
    by_cases hlt : k < T.length
    · have HTS := Lib.hid (cntB_take everyB T k hlt)
      have hki : (k : Int) < (T.length : Int) := by omega
      cases hp : everyB T[k]
      · rw [hp] at HTS
        have E := Lib.hid (show cntB everyB (T.take (k + 1)) = cntB everyB (T.take k) by rw [HTS.out]; rfl)
        clear HTS
        go_wp2_with (go_at_call 110; refine (every_any T[k] w).mono ?_; rintro e w' ⟨rfl, rfl⟩)
        go_round
        case rel => exact ⟨k + 1, by omega, by go_num, by rw [E.out]⟩
        case measure => simp [intOf]; omega
      · rw [hp] at HTS
        have E := Lib.hid (show cntB everyB (T.take (k + 1)) = cntB everyB (T.take k) + 1 by rw [HTS.out]; rfl)
        clear HTS
        go_wp2_with (go_at_call 110; refine (every_any T[k] w).mono ?_; rintro e w' ⟨rfl, rfl⟩)
        go_round
        case rel => exact ⟨k + 1, by omega, by go_num, by rw [E.out]; go_num⟩
        case measure => simp [intOf]; omega
    · go_wp2
      go_ret
      exact ⟨ret_int (by rw [List.take_of_length_le (by omega)]), rfl⟩

set_option maxHeartbeats 400000 in
set_option maxRecDepth 100000 in
theorem count_begins (T : List UInt8) (hT : T.length ≤ 1000000) (w : World) :
    Calls Tryz.prog 113 #[.string ⟨T.toArray⟩, .func (.func 111) #[] #[]] w fun e w' => e = .returned (.int .i64 (cntB beginsB T)) ∧ w' = w := by
  go_enter Tryz.func113, Tryz.ntmps113
  go_wp2_with fail
  go_loop [5, 9] (fun n i => ∃ k : Nat, k ≤ T.length ∧ i = .int .i64 k ∧ n = .int .i64 (cntB beginsB (T.take k))) (fun _ i => T.length - (intOf i).toNat)
  case atStart => exact ⟨0, Nat.zero_le _, rfl, rfl⟩
  case round =>
    obtain ⟨k, hk, rfl, rfl⟩ := hrel
    have hl := cntB_le beginsB (T.take k)
    rw [List.length_take] at hl
    by_cases hlt : k < T.length
    · have HTS := Lib.hid (cntB_take beginsB T k hlt)
      have hki : (k : Int) < (T.length : Int) := by omega
      cases hp : beginsB T[k]
      · rw [hp] at HTS
        have E := Lib.hid (show cntB beginsB (T.take (k + 1)) = cntB beginsB (T.take k) by rw [HTS.out]; rfl)
        clear HTS
        go_wp2_with (go_at_call 111; refine (begins_any T[k] w).mono ?_; rintro e w' ⟨rfl, rfl⟩)
        go_round
        case rel => exact ⟨k + 1, by omega, by go_num, by rw [E.out]⟩
        case measure => simp [intOf]; omega
      · rw [hp] at HTS
        have E := Lib.hid (show cntB beginsB (T.take (k + 1)) = cntB beginsB (T.take k) + 1 by rw [HTS.out]; rfl)
        clear HTS
        go_wp2_with (go_at_call 111; refine (begins_any T[k] w).mono ?_; rintro e w' ⟨rfl, rfl⟩)
        go_round
        case rel => exact ⟨k + 1, by omega, by go_num, by rw [E.out]; go_num⟩
        case measure => simp [intOf]; omega
    · go_wp2
      go_ret
      exact ⟨ret_int (by rw [List.take_of_length_le (by omega)]), rfl⟩

set_option maxHeartbeats 400000 in
set_option maxRecDepth 100000 in
theorem count_feeds (T : List UInt8) (hT : T.length ≤ 1000000) (w : World) :
    Calls Tryz.prog 113 #[.string ⟨T.toArray⟩, .func (.func 112) #[] #[]] w fun e w' => e = .returned (.int .i64 (cntB feedsB T)) ∧ w' = w := by
  go_enter Tryz.func113, Tryz.ntmps113
  go_wp2_with fail
  go_loop [5, 9] (fun n i => ∃ k : Nat, k ≤ T.length ∧ i = .int .i64 k ∧ n = .int .i64 (cntB feedsB (T.take k))) (fun _ i => T.length - (intOf i).toNat)
  case atStart => exact ⟨0, Nat.zero_le _, rfl, rfl⟩
  case round =>
    obtain ⟨k, hk, rfl, rfl⟩ := hrel
    have hl := cntB_le feedsB (T.take k)
    rw [List.length_take] at hl
    by_cases hlt : k < T.length
    · have HTS := Lib.hid (cntB_take feedsB T k hlt)
      have hki : (k : Int) < (T.length : Int) := by omega
      cases hp : feedsB T[k]
      · rw [hp] at HTS
        have E := Lib.hid (show cntB feedsB (T.take (k + 1)) = cntB feedsB (T.take k) by rw [HTS.out]; rfl)
        clear HTS
        go_wp2_with (go_at_call 112; refine (feeds_any T[k] w).mono ?_; rintro e w' ⟨rfl, rfl⟩)
        go_round
        case rel => exact ⟨k + 1, by omega, by go_num, by rw [E.out]⟩
        case measure => simp [intOf]; omega
      · rw [hp] at HTS
        have E := Lib.hid (show cntB feedsB (T.take (k + 1)) = cntB feedsB (T.take k) + 1 by rw [HTS.out]; rfl)
        clear HTS
        go_wp2_with (go_at_call 112; refine (feeds_any T[k] w).mono ?_; rintro e w' ⟨rfl, rfl⟩)
        go_round
        case rel => exact ⟨k + 1, by omega, by go_num, by rw [E.out]; go_num⟩
        case measure => simp [intOf]; omega
    · go_wp2
      go_ret
      exact ⟨ret_int (by rw [List.take_of_length_le (by omega)]), rfl⟩

set_option maxHeartbeats 400000 in
set_option maxRecDepth 100000 in
theorem measured_any (a b c : Nat) (w : World) : Calls Tryz.prog 114 #[.agg #[.int .i64 a, .int .i64 b, .int .i64 c]] w fun e w' => e = .returned (.agg #[.int .i64 a, .int .i64 b, .int .i64 c]) ∧ Below w.heap.size w w' := by
  have he := eqCn a b c 0 0 0
  by_cases hz : a = 0 ∧ b = 0 ∧ c = 0
  · obtain ⟨rfl, rfl, rfl⟩ := hz
    simp at he
    go_enter Tryz.func114, Tryz.ntmps114
    go_wp2
    exact bodyPost_ret (v := .agg #[.int .i64 0, .int .i64 0, .int .i64 0]) (by simp [results, Tryz.results114, go_sem]) rfl ⟨rfl, ((Below.refl _ _).alloc (Nat.le_refl _) _).alloc (by simp) _⟩
  · have hf : (decide ((a : Int) = 0) && (decide ((b : Int) = 0) && decide ((c : Int) = 0))) = false := by
      rw [Bool.eq_false_iff]; intro h; simp at h; omega
    simp only [hf] at he
    clear hf hz
    go_enter Tryz.func114, Tryz.ntmps114
    go_wp2
    exact bodyPost_ret (v := .agg #[.int .i64 a, .int .i64 b, .int .i64 c]) (by simp [results, Tryz.results114, go_sem]) rfl ⟨rfl, ((Below.refl _ _).alloc (Nat.le_refl _) _).alloc (by simp) _⟩

set_option maxHeartbeats 800000 in
set_option maxRecDepth 100000 in
theorem of_any (T : List UInt8) (hT : T.length ≤ 1000000) (w : World) : Calls Tryz.prog 92 #[.string ⟨T.toArray⟩] w fun e w' => e = .returned (meas T).v ∧ Below w.heap.size w w' := by
  have i0 : ∀ w, (Instr.index 203 (.agg #[.func (.func 110) #[] #[], .func (.func 111) #[] #[], .func (.func 112) #[] #[]]) (.int .i64 0)).run Tryz.prog w = .ok (.func (.func 110) #[] #[]) w := fun _ => by kernel_rfl
  have i1 : ∀ w, (Instr.index 203 (.agg #[.func (.func 110) #[] #[], .func (.func 111) #[] #[], .func (.func 112) #[] #[]]) (.int .i64 1)).run Tryz.prog w = .ok (.func (.func 111) #[] #[]) w := fun _ => by kernel_rfl
  have i2 : ∀ w, (Instr.index 203 (.agg #[.func (.func 110) #[] #[], .func (.func 111) #[] #[], .func (.func 112) #[] #[]]) (.int .i64 2)).run Tryz.prog w = .ok (.func (.func 112) #[] #[]) w := fun _ => by kernel_rfl
  have E := Lib.hid (show meas T = ⟨cntB everyB T, cntB beginsB T, cntB feedsB T⟩ by rw [cntB_every]; rfl)
  rw [E.out]
  clear E
  unfold Ms.v
  simp only
  go_enter Tryz.func92, Tryz.ntmps92
  go_wp2_with fail
  refine wp_loop_rounds 4 ?_
  rw [rounds_succ]
  go_wp2_with (go_at_call 113; refine (count_every T hT _).mono ?_; rintro e w' ⟨rfl, rfl⟩)
  rw [rounds_succ]
  go_wp2_with (go_at_call 113; refine (count_begins T hT _).mono ?_; rintro e w' ⟨rfl, rfl⟩)
  rw [rounds_succ]
  go_wp2_with (go_at_call 113; refine (count_feeds T hT _).mono ?_; rintro e w' ⟨rfl, rfl⟩)
  rw [rounds_succ]
  go_wp2_with (go_at_call 114; refine (measured_any _ _ _ _).mono ?_; rintro e w' ⟨rfl, hb⟩; obtain ⟨c0, c1, c2, f0, f1, f2⟩ := (((Bk.new w #[.int .i64 0, .int .i64 0, .int .i64 0] 37).alloc).ext hb (by simp; omega)).three)
  refine bodyPost_ret (v := .agg #[.int .i64 (cntB everyB T), .int .i64 (cntB beginsB T), .int .i64 (cntB feedsB T)]) (by simp [results, Tryz.results92, go_sem, c0, c1, c2]) rfl ⟨rfl, ?_⟩
  exact bset (bset (bset (bcall (bal (bal (Below.refl _ _))) hb) (Nat.le_refl _)) (Nat.le_refl _)) (Nat.le_refl _)

end Go.Proofs.YtclmjnobacepjaaGreat
