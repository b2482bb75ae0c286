/- quartolaw04.ApplyDoes returns true: the walk. -/
import Derived.Test.YtpbnciioeiohlaaLawDoes
namespace Go.Proofs.Ytpbnciioeiohlaa
open Go.RowKit

set_option maxHeartbeats 4000000 in
set_option maxRecDepth 100000 in
theorem lawApplyDoes_any (s : List UInt8) (v : Value) (l : List Pc) (w : World) (hs : s.length ≤ 140737488351232) (h : Sl pcE w v l) (hd : ∀ p, p ∈ l → p.wf) (hl : l.length * 32 ≤ 140737488355328) :
    Calls Try.prog 3 #[.string ⟨s.toArray⟩, v] w fun e w' => e = .returned (.bool true) ∧ Below w.heap.size w w' := by
  have H := Lib.hid h; have Hd := Lib.hid hd; have Hl := Lib.hid hl
  have hs' : s.length ≤ 9223372036854775807 := by omega
  have Hs := Lib.hid hs'
  clear h hd hl hs'
  go_enter Try.func3, Try.ntmps3
  go_wp2_with fail
  refine (own_any v l w H.out Hl.out).mono ?_
  rintro e w1 ⟨x, rfl, ho, hb⟩
  have X1 := Lib.hid (Sl.of_own ho)
  have H1 := Lib.hid (H.out.ext hb)
  have B1 := Lib.hid hb
  clear ho hb
  go_wp2_with fail
  refine (apply_any s x l w1 Hs.out X1.out Hd.out).mono ?_
  rintro e w2 ⟨rfl, hb⟩
  have X2 := Lib.hid (X1.out.ext hb)
  have H2 := Lib.hid (H1.out.ext hb)
  have B2 := Lib.hid (B1.out.trans (hb.mono B1.out.size))
  clear hb X1 H1 B1
  go_wp2_with fail
  refine (refApply_any s v l w2 Hs.out H2.out Hd.out).mono ?_
  rintro e w3 ⟨rfl, hb⟩
  have X3 := Lib.hid (X2.out.ext hb)
  have H3 := Lib.hid (H2.out.ext hb)
  have B3 := Lib.hid (B2.out.trans (hb.mono B2.out.size))
  clear hb X2 H2 B2
  go_wp2_with fail
  refine (removed_any s x l w3 Hs.out X3.out Hd.out).mono ?_
  rintro e w4 ⟨rfl, hb⟩
  have X4 := Lib.hid (X3.out.ext hb)
  have H4 := Lib.hid (H3.out.ext hb)
  have B4 := Lib.hid (B3.out.trans (hb.mono B3.out.size))
  clear hb X3 H3 B3
  go_wp2_with fail
  refine (refRemoved_any s v l w4 Hs.out H4.out Hd.out).mono ?_
  rintro e w5 ⟨rfl, hb⟩
  have X5 := Lib.hid (X4.out.ext hb)
  have H5 := Lib.hid (H4.out.ext hb)
  have B5 := Lib.hid (B4.out.trans (hb.mono B4.out.size))
  clear hb X4 H4 B4
  generalize applyS s l = ta
  generalize removedS s l = tr
  generalize fitE s l = er
  go_wp2_with fail
  refine (same_any x v l l _ X5.out H5.out).mono ?_
  rintro e w6 ⟨rfl, hb⟩
  have B6 := Lib.hid (B5.out.trans (hb.mono B5.out.size))
  clear hb X5 H5 B5
  rw [sameB_refl l]
  go_wp2_with fail
  refine (known_any _).mono ?_
  rintro e w7 ⟨rfl, hb⟩
  have B7 := Lib.hid (B6.out.trans (hb.mono B6.out.size))
  clear hb B6
  go_wp2
  go_ret
  exact ⟨rfl, B7.out⟩

end Go.Proofs.Ytpbnciioeiohlaa
