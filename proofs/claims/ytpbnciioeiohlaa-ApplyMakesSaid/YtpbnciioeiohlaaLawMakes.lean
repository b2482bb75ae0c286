/- quartolaw04.ApplyMakes returns true: the walk. -/
import Derived.Test.YtpbnciioeiohlaaLawDoes
import Derived.Test.YtpbnciioeiohlaaRef4b
namespace Go.Proofs.Ytpbnciioeiohlaa
open Go.RowKit

set_option maxHeartbeats 4000000 in
set_option maxRecDepth 100000 in
theorem lawApplyMakes_any (n a k : Int) (t : List UInt8) (w : World) (hn : -9223372036854775808 ≤ n) (hn' : n ≤ 9223372036854775807) (ha : -9223372036854775808 ≤ a) (ha' : a ≤ 9223372036854775807) (hk : -9223372036854775808 ≤ k) (hk' : k ≤ 9223372036854775807) (ht : t.length ≤ 140737488351232) :
    Calls Try.prog 6 #[.int .i64 n, .int .i64 a, .int .i64 k, .string ⟨t.toArray⟩] w fun e w' => e = .returned (.bool true) ∧ Below w.heap.size w w' := by
  have ht' : t.length ≤ 9223372036854775807 := by omega
  have r1 := Lib.hid fun w => replace_any n a k t w hn hn' ha ha' hk hk' ht'
  have r2 := Lib.hid fun w => refReplace_any n a k t w hn hn' ha ha' hk hk' ht'
  have r3 := Lib.hid fun w => insert_any n a t w hn hn' ha ha' ht'
  have r4 := Lib.hid fun w => refReplace_any n a 0 t w hn hn' ha ha' (by omega) (by omega) ht'
  have r5 := Lib.hid fun w => delete_any n a k w hn hn' ha ha' hk hk'
  have r6 := Lib.hid fun w => refReplace_any n a k [] w hn hn' ha ha' hk hk' (by simp)
  clear ht' ht hn hn' ha ha' hk hk'
  generalize replS n a k t = L1 at *
  generalize replS n a 0 t = L2 at *
  generalize replS n a k [] = L3 at *
  generalize replE n a k t = E1 at *
  generalize replE n a 0 t = E2 at *
  generalize replE n a k [] = E3 at *
  go_enter Try.func6, Try.ntmps6
  go_wp2_with fail
  refine (r1.out _).mono ?_
  rintro e w1 ⟨v1, rfl, ho, hb⟩
  have S1 := Lib.hid (Sl.of_own ho)
  have B1 := Lib.hid hb
  clear ho hb
  go_wp2_with fail
  refine (r2.out _).mono ?_
  rintro e w2 ⟨v2, rfl, ho, hb⟩
  have S2 := Lib.hid (Sl.of_own ho)
  have S1' := Lib.hid (S1.out.ext hb)
  have B2 := Lib.hid (B1.out.trans (hb.mono B1.out.size))
  clear ho hb S1 B1
  go_wp2_with fail
  refine (same_any v1 v2 L1 L1 _ S1'.out S2.out).mono ?_
  rintro e w3 ⟨rfl, hb⟩
  have B3 := Lib.hid (B2.out.trans (hb.mono B2.out.size))
  clear hb B2 S1' S2
  rw [sameB_refl L1]
  go_wp2_with fail
  refine (r3.out _).mono ?_
  rintro e w4 ⟨v4, rfl, ho, hb⟩
  have S1 := Lib.hid (Sl.of_own ho)
  have B4 := Lib.hid (B3.out.trans (hb.mono B3.out.size))
  clear ho hb B3
  go_wp2_with fail
  refine (r4.out _).mono ?_
  rintro e w5 ⟨v5, rfl, ho, hb⟩
  have S2 := Lib.hid (Sl.of_own ho)
  have S1' := Lib.hid (S1.out.ext hb)
  have B5 := Lib.hid (B4.out.trans (hb.mono B4.out.size))
  clear ho hb S1 B4
  go_wp2_with fail
  refine (same_any v4 v5 L2 L2 _ S1'.out S2.out).mono ?_
  rintro e w6 ⟨rfl, hb⟩
  have B6 := Lib.hid (B5.out.trans (hb.mono B5.out.size))
  clear hb B5 S1' S2
  rw [sameB_refl L2]
  go_wp2_with fail
  refine (r5.out _).mono ?_
  rintro e w7 ⟨v7, rfl, ho, hb⟩
  have S1 := Lib.hid (Sl.of_own ho)
  have B7 := Lib.hid (B6.out.trans (hb.mono B6.out.size))
  clear ho hb B6
  go_wp2_with fail
  refine (r6.out _).mono ?_
  rintro e w8 ⟨v8, rfl, ho, hb⟩
  have S2 := Lib.hid (Sl.of_own ho)
  have S1' := Lib.hid (S1.out.ext hb)
  have B8 := Lib.hid (B7.out.trans (hb.mono B7.out.size))
  clear ho hb S1 B7
  go_wp2_with fail
  refine (same_any v7 v8 L3 L3 _ S1'.out S2.out).mono ?_
  rintro e w9 ⟨rfl, hb⟩
  have B9 := Lib.hid (B8.out.trans (hb.mono B8.out.size))
  clear hb B8 S1' S2
  rw [sameB_refl L3]
  go_wp2_with fail
  refine (known_any _).mono ?_
  rintro e w10 ⟨rfl, hb⟩
  have B10 := Lib.hid (B9.out.trans (hb.mono B9.out.size))
  clear hb B9
  go_wp2
  go_ret
  exact ⟨rfl, B10.out⟩

end Go.Proofs.Ytpbnciioeiohlaa
