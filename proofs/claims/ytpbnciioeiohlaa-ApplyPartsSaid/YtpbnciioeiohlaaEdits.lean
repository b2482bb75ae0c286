/- apply.Insert and apply.Delete: Replace of nothing, Replace by nothing. -/
import Derived.Test.YtpbnciioeiohlaaReplace
namespace Go.Proofs.Ytpbnciioeiohlaa
open Go.RowKit

set_option maxHeartbeats 1000000 in
theorem insert_any (n a : Int) (t : List UInt8) (w : World) (hn : -9223372036854775808 ≤ n) (hn' : n ≤ 9223372036854775807) (ha : -9223372036854775808 ≤ a) (ha' : a ≤ 9223372036854775807) (ht : t.length ≤ 9223372036854775807) :
    Calls Try.prog 34 #[.int .i64 n, .int .i64 a, .string ⟨t.toArray⟩] w fun e w' => ∃ v', e = .returned (.tuple #[v', .int .i64 (replE n a 0 t)]) ∧ w'.ownsRow w.heap.size 38 3 v' (replS n a 0 t).length (pcE.flat (replS n a 0 t)) ∧ Below w.heap.size w w' := by
  go_enter Try.func34, Try.ntmps34
  go_wp2_with fail
  refine (replace_any n a 0 t w hn hn' ha ha' (by omega) (by omega) ht).mono ?_
  rintro e w1 ⟨v1, rfl, ho, hb⟩
  have Ho := Lib.hid ho; have Hb := Lib.hid hb
  clear ho hb
  go_wp2
  go_ret2
  exact ⟨v1, rfl, Ho.out, Hb.out⟩

set_option maxHeartbeats 1000000 in
theorem delete_any (n a k : Int) (w : World) (hn : -9223372036854775808 ≤ n) (hn' : n ≤ 9223372036854775807) (ha : -9223372036854775808 ≤ a) (ha' : a ≤ 9223372036854775807) (hk : -9223372036854775808 ≤ k) (hk' : k ≤ 9223372036854775807) :
    Calls Try.prog 35 #[.int .i64 n, .int .i64 a, .int .i64 k] w fun e w' => ∃ v', e = .returned (.tuple #[v', .int .i64 (replE n a k [])]) ∧ w'.ownsRow w.heap.size 38 3 v' (replS n a k []).length (pcE.flat (replS n a k [])) ∧ Below w.heap.size w w' := by
  go_enter Try.func35, Try.ntmps35
  go_wp2_with fail
  refine (replace_any n a k [] w hn hn' ha ha' hk hk' (by simp)).mono ?_
  rintro e w1 ⟨v1, rfl, ho, hb⟩
  have Ho := Lib.hid ho; have Hb := Lib.hid hb
  clear ho hb
  go_wp2
  go_ret2
  exact ⟨v1, rfl, Ho.out, Hb.out⟩

end Go.Proofs.Ytpbnciioeiohlaa
