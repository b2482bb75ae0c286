/- rope.Pen: a job is run. -/
import Derived.Test.YtclmjnobacepjaaGreatTJob
namespace Go.Proofs.YtclmjnobacepjaaGreat
open Go.RowKit

set_option maxHeartbeats 4000000 in
set_option maxRecDepth 100000 in
theorem run_leaf (A : AF) (GI GN : Ar) (x : Nd) (n bp jp jc jr rb bx : Nat) (v1 v2 : Value) (r0 : Value) (r1 r2 r3 r4 : Value) (w : World) (hp : Bk w jp #[.pointer (some ⟨bp, 0, none⟩)] 126) (hc : Bk w jc #[.func (.func 84) #[] #[.pointer (some ⟨bx, 0, none⟩)]] 171) (hr : Bk w jr #[.pointer (some ⟨rb, 0, none⟩)] 130) (hb : Bk w bp #[.pointer (some ⟨A.ba, 0, none⟩), v1, v2] 132) (hrb : Bk w rb #[r0, r1, r2, r3, r4] 39)
    (nr : ¬ arT A jr) (nrb : ¬ arT A rb)
    (hC : ∀ W', Below w.heap.size w W' → Calls Tryz.prog 84 #[.pointer (some ⟨bx, 0, none⟩)] W' fun e W'' => ∃ kv, e = .returned (ndV x kv) ∧ NodeIn GI GI.length x kv W'' ∧ (∀ g, kv.ownBlock = some g → ¬ arT A g) ∧ Below W'.heap.size W' W'')
    (hA : ∀ W' kv, Below w.heap.size w W' → NodeIn GI GI.length x kv W' → (∀ g, kv.ownBlock = some g → ¬ arT A g) → Calls Tryz.prog 105 #[.pointer (some ⟨A.ba, 0, none⟩), ndV x kv] W' fun e W'' => e = .returned (.tuple #[.int .u64 (hd n : Nat), .int .i64 0]) ∧ ArM W'' A GN ∧ FrT (arT A) W' W'') :
    Calls Tryz.prog 104 #[.pointer (some ⟨jp, 0, none⟩), .pointer (some ⟨jc, 0, none⟩), .pointer (some ⟨jr, 0, none⟩)] w fun e w' => e = .returned (.tuple #[.int .u64 (hd n : Nat), .int .i64 0]) ∧ ∃ W3, ArM W3 A GN ∧ FrT (arT A) w W3 ∧ w' = W3.setCell ⟨rb, 0, none⟩ (.int .u64 (hd n : Nat)) := by
  obtain ⟨p0, -⟩ := hp.one
  obtain ⟨c0, -⟩ := hc.one
  obtain ⟨b0, -, -, -⟩ := hb.three
  have l1 := hp.lt; have l2 := hc.lt; have l3 := hb.lt
  have HP := Lib.hid hp; have HCC := Lib.hid hc; have HBB := Lib.hid hb; have HR := Lib.hid hr; have HRB := Lib.hid hrb; have NR := Lib.hid nr; have NRB := Lib.hid nrb
  have CC := Lib.hid hC; have CA := Lib.hid hA
  have CB : Below w.heap.size w w.drew := bdr (Below.refl _ _)
  have HB0 := Lib.hid CB
  clear hp hc hr hb hrb nr nrb hC hA CB
  go_enter Tryz.func104, Tryz.ntmps104
  go_upto_region 1 with (fail)
  go_region_law (first
    | (go_simp; go_at_call 84; (with_reducible refine (CC.out _ HB0.out).mono ?_); rintro e w5 ⟨kv, rfl, hN5, hg5, hb5⟩; have HN5 := Lib.hid hN5; have HG5 := Lib.hid hg5; have HB5 := Lib.hid (bcall HB0.out hb5); obtain ⟨x0, -⟩ := (HP.out.ext HB5.out HP.out.lt).one; obtain ⟨y0, -, -, -⟩ := (HBB.out.ext HB5.out HBB.out.lt).three; have z1 := (HP.out.ext HB5.out HP.out.lt).lt; have z2 := (HBB.out.ext HB5.out HBB.out.lt).lt; clear hN5 hg5 hb5)
    | (go_simp; go_at_call 105; (with_reducible refine (CA.out _ _ HB5.out HN5.out HG5.out).mono ?_); rintro e w6 ⟨rfl, ha6, hf6⟩; have HA6 := Lib.hid ha6; have HF6 := Lib.hid ((FrT.of_below HB5.out).trans hf6); clear ha6 hf6))
  all_goals
    have q1 : Bk w6 jr #[.pointer (some ⟨rb, 0, none⟩)] 130 := (HF6.out.block jr HR.out.lt NR.out).trans HR.out
    have q2 : Bk w6 rb #[r0, r1, r2, r3, r4] 39 := (HF6.out.block rb HRB.out.lt NRB.out).trans HRB.out
    obtain ⟨t0, -⟩ := q1.one
    obtain ⟨u0, -, -, -, -, uf0, -⟩ := q2.five
    have l4 := q1.lt; have l5 := q2.lt
    clear q1 q2
    go_wp2_with fail
    go_ret2
    exact ⟨rfl, w6, HA6.out, HF6.out, rfl⟩

set_option maxHeartbeats 4000000 in
set_option maxRecDepth 100000 in
theorem runInn (A : AF) (GI GN : Ar) (x : Nd) (n bp jp jc jr rb bt bk : Nat) (v1 v2 : Value) (r0 : Value) (r1 r2 r3 r4 : Value) (w : World) (hp : Bk w jp #[.pointer (some ⟨bp, 0, none⟩)] 126) (hc : Bk w jc #[.func (.func 85) #[] #[.pointer (some ⟨bt, 0, none⟩), .pointer (some ⟨bk, 0, none⟩)]] 171) (hr : Bk w jr #[.pointer (some ⟨rb, 0, none⟩)] 130) (hb : Bk w bp #[.pointer (some ⟨A.ba, 0, none⟩), v1, v2] 132) (hrb : Bk w rb #[r0, r1, r2, r3, r4] 39)
    (nr : ¬ arT A jr) (nrb : ¬ arT A rb)
    (hC : ∀ W', Below w.heap.size w W' → Calls Tryz.prog 85 #[.pointer (some ⟨bt, 0, none⟩), .pointer (some ⟨bk, 0, none⟩)] W' fun e W'' => ∃ kv, e = .returned (ndV x kv) ∧ NodeIn GI GI.length x kv W'' ∧ (∀ g, kv.ownBlock = some g → ¬ arT A g) ∧ Below W'.heap.size W' W'')
    (hA : ∀ W' kv, Below w.heap.size w W' → NodeIn GI GI.length x kv W' → (∀ g, kv.ownBlock = some g → ¬ arT A g) → Calls Tryz.prog 105 #[.pointer (some ⟨A.ba, 0, none⟩), ndV x kv] W' fun e W'' => e = .returned (.tuple #[.int .u64 (hd n : Nat), .int .i64 0]) ∧ ArM W'' A GN ∧ FrT (arT A) W' W'') :
    Calls Tryz.prog 104 #[.pointer (some ⟨jp, 0, none⟩), .pointer (some ⟨jc, 0, none⟩), .pointer (some ⟨jr, 0, none⟩)] w fun e w' => e = .returned (.tuple #[.int .u64 (hd n : Nat), .int .i64 0]) ∧ ∃ W3, ArM W3 A GN ∧ FrT (arT A) w W3 ∧ w' = W3.setCell ⟨rb, 0, none⟩ (.int .u64 (hd n : Nat)) := by
  obtain ⟨p0, -⟩ := hp.one
  obtain ⟨c0, -⟩ := hc.one
  obtain ⟨b0, -, -, -⟩ := hb.three
  have l1 := hp.lt; have l2 := hc.lt; have l3 := hb.lt
  have HP := Lib.hid hp; have HCC := Lib.hid hc; have HBB := Lib.hid hb; have HR := Lib.hid hr; have HRB := Lib.hid hrb; have NR := Lib.hid nr; have NRB := Lib.hid nrb
  have CC := Lib.hid hC; have CA := Lib.hid hA
  have CB : Below w.heap.size w w.drew := bdr (Below.refl _ _)
  have HB0 := Lib.hid CB
  clear hp hc hr hb hrb nr nrb hC hA CB
  go_enter Tryz.func104, Tryz.ntmps104
  go_upto_region 1 with (fail)
  go_region_law (first
    | (go_simp; go_at_call 85; (with_reducible refine (CC.out _ HB0.out).mono ?_); rintro e w5 ⟨kv, rfl, hN5, hg5, hb5⟩; have HN5 := Lib.hid hN5; have HG5 := Lib.hid hg5; have HB5 := Lib.hid (bcall HB0.out hb5); obtain ⟨x0, -⟩ := (HP.out.ext HB5.out HP.out.lt).one; obtain ⟨y0, -, -, -⟩ := (HBB.out.ext HB5.out HBB.out.lt).three; have z1 := (HP.out.ext HB5.out HP.out.lt).lt; have z2 := (HBB.out.ext HB5.out HBB.out.lt).lt; clear hN5 hg5 hb5)
    | (go_simp; go_at_call 105; (with_reducible refine (CA.out _ _ HB5.out HN5.out HG5.out).mono ?_); rintro e w6 ⟨rfl, ha6, hf6⟩; have HA6 := Lib.hid ha6; have HF6 := Lib.hid ((FrT.of_below HB5.out).trans hf6); clear ha6 hf6))
  all_goals
    have q1 : Bk w6 jr #[.pointer (some ⟨rb, 0, none⟩)] 130 := (HF6.out.block jr HR.out.lt NR.out).trans HR.out
    have q2 : Bk w6 rb #[r0, r1, r2, r3, r4] 39 := (HF6.out.block rb HRB.out.lt NRB.out).trans HRB.out
    obtain ⟨t0, -⟩ := q1.one
    obtain ⟨u0, -, -, -, -, uf0, -⟩ := q2.five
    have l4 := q1.lt; have l5 := q2.lt
    clear q1 q2
    go_wp2_with fail
    go_ret2
    exact ⟨rfl, w6, HA6.out, HF6.out, rfl⟩

end Go.Proofs.YtclmjnobacepjaaGreat
