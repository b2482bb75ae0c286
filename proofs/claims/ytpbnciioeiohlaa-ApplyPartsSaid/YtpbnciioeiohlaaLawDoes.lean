/- quartolaw04.ApplyInserted and ApplyDoes return true: the walks. -/
import Derived.Test.YtpbnciioeiohlaaKnown
namespace Go.Proofs.Ytpbnciioeiohlaa
open Go.RowKit

theorem sameB_refl (l : List Pc) : sameB l l = true := (sameB_iff l l).2 rfl

set_option maxHeartbeats 4000000 in
set_option maxRecDepth 100000 in
theorem lawInserted_any (v : Value) (l : List Pc) (w : World) (h : Sl pcE w v l) (hd : ∀ p, p ∈ l → p.wf) (hl : l.length * 32 ≤ 140737488355328) :
    Calls Try.prog 4 #[v] w fun e w' => e = .returned (.bool true) ∧ Below w.heap.size w w' := by
  have H := Lib.hid h; have Hd := Lib.hid hd; have Hl := Lib.hid hl
  clear h hd hl
  go_enter Try.func4, Try.ntmps4
  go_wp2_with fail
  refine (own_any v l w H.out Hl.out).mono ?_
  rintro e w1 ⟨x, rfl, ho, hb⟩
  have X1 := Lib.hid (Sl.of_own ho)
  have H1 := Lib.hid (H.out.ext hb)
  have B1 := Lib.hid hb
  clear ho hb
  go_wp2_with fail
  refine (inserted_any x l w1 X1.out Hd.out).mono ?_
  rintro e w2 ⟨rfl, hb⟩
  have X2 := Lib.hid (X1.out.ext hb)
  have H2 := Lib.hid (H1.out.ext hb)
  have B2 := Lib.hid (B1.out.trans (hb.mono B1.out.size))
  clear hb X1 H1 B1
  go_wp2_with fail
  refine (refInserted_any v l w2 H2.out Hd.out).mono ?_
  rintro e w3 ⟨rfl, hb⟩
  have X3 := Lib.hid (X2.out.ext hb)
  have H3 := Lib.hid (H2.out.ext hb)
  have B3 := Lib.hid (B2.out.trans (hb.mono B2.out.size))
  clear hb X2 H2 B2
  generalize insertedS l = tx
  generalize errL l = er
  go_wp2_with fail
  refine (same_any x v l l _ X3.out H3.out).mono ?_
  rintro e w4 ⟨rfl, hb⟩
  have B4 := Lib.hid (B3.out.trans (hb.mono B3.out.size))
  clear hb X3 H3 B3
  rw [sameB_refl l]
  go_wp2_with fail
  refine (known_any _).mono ?_
  rintro e w5 ⟨rfl, hb⟩
  have B5 := Lib.hid (B4.out.trans (hb.mono B4.out.size))
  clear hb B4
  go_wp2
  go_ret
  exact ⟨rfl, B5.out⟩

end Go.Proofs.Ytpbnciioeiohlaa
