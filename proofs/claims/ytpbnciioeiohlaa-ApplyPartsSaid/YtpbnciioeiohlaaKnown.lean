/- quartolaw04.known: the examples of the chapter hold. -/
import Derived.Test.YtpbnciioeiohlaaEdits
namespace Go.Proofs.Ytpbnciioeiohlaa
open Go.RowKit

def dK : List Pc := [⟨1, 1, []⟩, ⟨2, 0, [120, 121]⟩, ⟨3, 2, []⟩, ⟨1, 3, []⟩]
def sK : List UInt8 := [97, 98, 99, 100, 101, 102]
def vK : List Pc := [⟨1, 1, []⟩, ⟨2, 0, [98, 99]⟩, ⟨3, 2, []⟩, ⟨1, 3, []⟩]
def mK : List Pc := [⟨1, 1, []⟩, ⟨2, 0, [120]⟩, ⟨1, 2, []⟩]
theorem wfK : ∀ p, p ∈ dK → p.wf := wf_of_err (by decide)
theorem k1 : fitE sK dK = 0 := by decide
theorem k2 : applyS sK dK = [97, 120, 121, 100, 101, 102] := by decide
theorem k3 : inverseS sK dK = vK := (sameB_iff _ _).1 (by decide)
theorem k4 : removedS sK dK = [98, 99] := by decide
theorem k5 : insertedS dK = [120, 121] := by decide
theorem k6 : errL dK = 0 := by decide
theorem k7 : fitE [97, 98, 99] [⟨1, 2, []⟩] = 21 := by decide
theorem k8 : replE 3 1 0 [120] = 0 := by decide
theorem k9 : replS 3 1 0 [120] = mK := (sameB_iff _ _).1 (by decide)
theorem k10 : replE 3 2 2 [] = 3 := by decide

theorem sl_fresh (w : World) (l : List Pc) (t : TypeId) (h : l.length ≤ maxLen) : Sl pcE (w.alloc (.cells (pcE.flat l).toArray t)) (.slice (some ⟨w.heap.size, 0, none⟩) l.length l.length) l := by
  refine ⟨_, _, rfl, Nat.le_refl _, h, fun _ => ⟨_, _, rfl, by simp, fun i j x u hx hu => ?_⟩⟩
  rw [Lib.cell_of_heap (heap_alloc_new w _), Nat.zero_add]
  simpa using pcE.flat_at l i j x u hx hu

theorem kApply (v : Value) (w : World) (h : Sl pcE w v dK) :
    Calls Try.prog 22 #[.string ⟨#[97, 98, 99, 100, 101, 102]⟩, v] w fun e w' => e = .returned (.tuple #[.string ⟨#[97, 120, 121, 100, 101, 102]⟩, .int .i64 0]) ∧ Below w.heap.size w w' := by
  have := apply_any sK v dK w (by decide) h wfK
  rw [k1, k2] at this
  exact this
theorem kInvert (v : Value) (w : World) (h : Sl pcE w v dK) :
    Calls Try.prog 31 #[.string ⟨#[97, 98, 99, 100, 101, 102]⟩, v] w fun e w' => ∃ v', e = .returned (.tuple #[v', .int .i64 0]) ∧ Sl pcE w' v' vK ∧ Below w.heap.size w w' := by
  have := invert_any sK v dK w (by decide) h wfK
  rw [k1, k3] at this
  exact this.mono fun e w' ⟨v', a, b, c⟩ => ⟨v', a, Sl.of_own (own_zero b), c⟩
theorem kRemoved (v : Value) (w : World) (h : Sl pcE w v dK) :
    Calls Try.prog 24 #[.string ⟨#[97, 98, 99, 100, 101, 102]⟩, v] w fun e w' => e = .returned (.tuple #[.string ⟨#[98, 99]⟩, .int .i64 0]) ∧ Below w.heap.size w w' := by
  have := removed_any sK v dK w (by decide) h wfK
  rw [k1, k4] at this
  exact this
theorem kInserted (v : Value) (w : World) (h : Sl pcE w v dK) :
    Calls Try.prog 28 #[v] w fun e w' => e = .returned (.tuple #[.string ⟨#[120, 121]⟩, .int .i64 0]) ∧ Below w.heap.size w w' := by
  have := inserted_any v dK w h wfK
  rw [k5, k6] at this
  exact this
theorem kApply2 (v : Value) (w : World) (h : Sl pcE w v [⟨1, 2, []⟩]) :
    Calls Try.prog 22 #[.string ⟨#[97, 98, 99]⟩, v] w fun e w' => ∃ x, e = .returned (.tuple #[.string x, .int .i64 21]) ∧ Below w.heap.size w w' := by
  have := apply_any [97, 98, 99] v [⟨1, 2, []⟩] w (by decide) h (wf_of_err (by decide))
  rw [k7] at this
  exact this.mono fun e w' ⟨a, b⟩ => ⟨_, a, b⟩
theorem kInsert (w : World) :
    Calls Try.prog 34 #[.int .i64 3, .int .i64 1, .string ⟨#[120]⟩] w fun e w' => ∃ v', e = .returned (.tuple #[v', .int .i64 0]) ∧ Sl pcE w' v' mK ∧ Below w.heap.size w w' := by
  have := insert_any 3 1 [120] w (by decide) (by decide) (by decide) (by decide) (by decide)
  rw [k8, k9] at this
  exact this.mono fun e w' ⟨v', a, b, c⟩ => ⟨v', a, Sl.of_own (own_zero b), c⟩
theorem kDelete (w : World) :
    Calls Try.prog 35 #[.int .i64 3, .int .i64 2, .int .i64 2] w fun e w' => ∃ v', e = .returned (.tuple #[v', .int .i64 3]) ∧ Below w.heap.size w w' := by
  have := delete_any 3 2 2 w (by decide) (by decide) (by decide) (by decide) (by decide) (by decide)
  rw [k10] at this
  exact this.mono fun e w' ⟨v', a, b, c⟩ => ⟨v', a, c⟩

set_option maxHeartbeats 4000000 in
set_option maxRecDepth 100000 in
theorem known_any (w : World) :
    Calls Try.prog 27 #[] w fun e w' => e = .returned (.bool true) ∧ Below w.heap.size w w' := by
  have S0 := Lib.hid (sl_fresh w dK 38 (by decide))
  have B0 := Lib.hid ((Below.refl w.heap.size w).alloc (Nat.le_refl _) (.cells (pcE.flat dK).toArray 38))
  go_enter Try.func27, Try.ntmps27
  go_wp2_with fail
  refine (kApply _ _ S0.out).mono ?_
  rintro e w1 ⟨rfl, hb⟩
  have S1 := Lib.hid (S0.out.ext hb)
  have B1 := Lib.hid (B0.out.trans (hb.mono B0.out.size))
  clear hb S0 B0
  go_wp2_with fail
  refine (kInvert _ _ S1.out).mono ?_
  rintro e w2 ⟨v2, rfl, hv, hb⟩
  obtain ⟨A2, c2, hv2, hl2, hm2, -⟩ := id hv
  have V2 := Lib.hid hv
  have S2 := Lib.hid (S1.out.ext hb)
  have B2 := Lib.hid (B1.out.trans (hb.mono B1.out.size))
  subst hv2
  simp only [show vK.length = 4 from rfl] at *
  clear hb S1 B1 hv
  go_wp2_with fail
  refine (kRemoved _ _ S2.out).mono ?_
  rintro e w3 ⟨rfl, hb⟩
  have S3 := Lib.hid (S2.out.ext hb)
  have V3 := Lib.hid (V2.out.ext hb)
  have B3 := Lib.hid (B2.out.trans (hb.mono B2.out.size))
  clear hb S2 V2 B2
  go_wp2_with fail
  refine (kInserted _ _ S3.out).mono ?_
  rintro e w4 ⟨rfl, hb⟩
  have V4 := Lib.hid ((V3.out.ext hb).alloc (.cells (pcE.flat [⟨1, 2, []⟩]).toArray 38))
  have B4 := Lib.hid (B3.out.trans (hb.mono B3.out.size))
  have S4 := Lib.hid (sl_fresh w4 [⟨1, 2, []⟩] 38 (by decide))
  have B4' := Lib.hid (B4.out.alloc B4.out.size (.cells (pcE.flat [⟨1, 2, []⟩]).toArray 38))
  clear hb S3 V3 B3 B4
  go_wp2_with fail
  refine (kApply2 _ _ S4.out).mono ?_
  rintro e w5 ⟨x5, rfl, hb⟩
  have V5 := Lib.hid (V4.out.ext hb)
  have B5 := Lib.hid (B4'.out.trans (hb.mono B4'.out.size))
  clear hb S4 V4 B4'
  go_wp2_with fail
  refine (kInsert _).mono ?_
  rintro e w6 ⟨v6, rfl, hv, hb⟩
  obtain ⟨A6, c6, hv6, hl6, hm6, -⟩ := id hv
  have W6 := Lib.hid hv
  have V6 := Lib.hid (V5.out.ext hb)
  have B6 := Lib.hid (B5.out.trans (hb.mono B5.out.size))
  subst hv6
  simp only [show mK.length = 3 from rfl] at *
  clear hb V5 B5 hv
  go_wp2_with fail
  refine (kDelete _).mono ?_
  rintro e w7 ⟨v7, rfl, hb⟩
  have W7 := W6.out.ext hb
  have V7 := V6.out.ext hb
  have B7 := Lib.hid (B6.out.trans (hb.mono B6.out.size))
  obtain ⟨b, off, cap, hv, hbl, m0, m1, m2⟩ := W7.pc (k := 1) (by decide)
  obtain ⟨d, off', cap', hv', hbl', d0, d1, d2⟩ := V7.pc (k := 1) (by decide)
  obtain ⟨d', off'', cap'', hv'', hbl'', f0, f1, f2⟩ := V7.pc (k := 2) (by decide)
  obtain ⟨rfl, rfl⟩ : A6 = some ⟨b, off, none⟩ ∧ c6 = cap := by injection hv with e1 e2 e3; exact ⟨e1, e3⟩
  obtain ⟨rfl, rfl⟩ : A2 = some ⟨d, off', none⟩ ∧ c2 = cap' := by injection hv' with e1 e2 e3; exact ⟨e1, e3⟩
  obtain ⟨rfl, rfl⟩ : d = d' ∧ off' = off'' := by injection hv'' with e1 e2 e3; injection e1 with e1; injection e1 with e4 e5; exact ⟨e4, e5⟩
  clear hv hv' hv'' m0 m1 f0 f2 W6 V6 B6 W7 V7 hb
  simp only [vK, mK, List.getElem_cons_succ, List.getElem_cons_zero, Nat.one_mul, Nat.reduceMul] at m2 d0 d1 d2 f1
  unfold maxLen at *
  go_wp2
  go_ret
  exact ⟨rfl, B7.out⟩

end Go.Proofs.Ytpbnciioeiohlaa
