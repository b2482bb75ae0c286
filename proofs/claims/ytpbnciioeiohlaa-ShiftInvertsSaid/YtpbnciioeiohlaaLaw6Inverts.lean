/- quartolaw06.ShiftInverts returns true: the walk. -/
import Derived.Test.YtpbnciioeiohlaaBoth6
namespace Go.Proofs.Ytpbnciioeiohlaa
open Go.RowKit

theorem inv_runs {l : List Pc} (hl : Val l) : ∀ (s : List UInt8) (a o : Int), inL l ≤ s.length → runsS a o (invGo s l) = (runsS o a l).map turnR := by
  induction l with
  | nil => intro s a o _; rfl
  | cons p l ih =>
    intro s a o h
    obtain ⟨v1, v2⟩ := Val.cons.1 hl
    have hn := Val.n v1
    have hi := Val.inL v2
    simp only [inL] at h
    have ih' := fun a o => ih v2 (s.drop p.n.toNat) a o (by rw [List.length_drop]; omega)
    have hlen : (s.take p.n.toNat).length = p.n.toNat := by rw [List.length_take]; omega
    simp only [invGo, runsS]
    rcases Pc.valid_cases v1 with ⟨x, y, z⟩ | ⟨x, y, z⟩ | ⟨x, y, z⟩
    · have eq : invP (s.take p.n.toNat) p = p := by simp [invP, x]
      rw [eq, if_pos x, if_pos x, ih']
      rfl
    · have eq : invP (s.take p.n.toNat) p = ⟨2, 0, s.take p.n.toNat⟩ := by simp [invP, x]
      rw [eq, if_neg (show ¬ ((2 : Int) = 1) by omega), if_neg (show ¬ ((2 : Int) = 3) by omega), if_neg (show ¬ p.k = 1 by omega), if_pos x, ih', hlen, Int.toNat_of_nonneg hn]
    · have eq : invP (s.take p.n.toNat) p = ⟨3, p.t.length, []⟩ := by simp [invP, x]
      rw [eq, if_neg (show ¬ ((3 : Int) = 1) by omega), if_pos rfl, if_neg (show ¬ p.k = 1 by omega), if_neg (show ¬ p.k = 3 by omega), ih']
theorem KT.inv {s : List UInt8} {l : List Pc} (h : fitE s l = 0) {i j : Int} : KT false (inverseS s l) i j ↔ KT true l i j := by
  obtain ⟨h1, h2, h3⟩ := fit_ok h
  obtain ⟨v1, v2, v3⟩ := inv_ok h2 s (by omega)
  rw [inverseS, if_pos h, KT.form v1]
  unfold KT runsT
  rw [if_neg (by decide), if_pos rfl, inv_runs h2 s 0 0 (by omega)]
theorem inv_io {s : List UInt8} {l : List Pc} (h : fitE s l = 0) : Val (inverseS s l) ∧ inL (inverseS s l) = outL l ∧ outL (inverseS s l) = inL l := by
  obtain ⟨h1, h2, h3⟩ := fit_ok h
  obtain ⟨v1, v2, v3⟩ := inv_ok h2 s (by omega)
  rw [inverseS, if_pos h]
  exact ⟨(formS_ok v1).1, by rw [(formS_ok v1).2.2, v2], by rw [outL_formS v1, v3]⟩
theorem mov_congr {l m : List Pc} (h : Val l) (k : Val m) (t u : Bool) (hk : ∀ i j, KT t l i j ↔ KT u m i j) (he : (ioL t l).2 = (ioL u m).2) (hn : (ioL t l).1 = (ioL u m).1) (x g : Int) :
    movV t l x g (ioL t l).1 (ioL t l).2 = movV u m x g (ioL u m).1 (ioL u m).2 := by
  unfold movV
  rw [hn, left_congr h k t u hk, right_congr h k t u hk he]
theorem inv_pos {s : List UInt8} {l : List Pc} (h : fitE s l = 0) (x g : Int) :
    posV (inverseS s l) x g = backV l x g ∧ posE (inverseS s l) x g = backE l x g ∧ backV (inverseS s l) x g = posV l x g ∧ backE (inverseS s l) x g = posE l x g := by
  obtain ⟨h1, h2, h3⟩ := fit_ok h
  obtain ⟨v1, v2, v3⟩ := inv_io h
  have e := (back h).2.2.2.1
  have m1 := mov_congr v1 h2 false true (fun i j => KT.inv h) (by simp [ioL, v3]) (by simp [ioL, v2]) x g
  have m2 := mov_congr v1 h2 true false (fun i j => by rw [KT.turn, KT.inv h, KT.turn]) (by simp [ioL, v2]) (by simp [ioL, v3]) x g
  simp only [ioL, Bool.false_eq_true, if_false, if_true] at m1 m2
  unfold posV posE backV backE
  rw [if_pos e, if_pos e, if_pos h1, if_pos h1, if_pos e, if_pos e, if_pos h1, if_pos h1]
  exact ⟨m1, by rw [v2], m2, by rw [v3]⟩
theorem len32b {l : List Pc} (h : errL l = 0) : l.length * 32 ≤ 140737488355328 := by
  have := ((errL_iff l).1 h).1
  omega

set_option maxHeartbeats 4000000 in
set_option maxRecDepth 100000 in
theorem lawShiftInverts_any (s : List UInt8) (v : Value) (l : List Pc) (x g : Int) (w : World) (hs : s.length ≤ 140737488351232) (h : Sl pcE w v l) (hd : ∀ p, p ∈ l → p.wf) (hl : l.length * 32 ≤ 140737488355328) (_hx : -9223372036854775808 ≤ x) (_hx' : x ≤ 9223372036854775807) (_hg : 0 ≤ g) (_hg' : g ≤ 255) :
    Calls Try.prog 19 #[.string ⟨s.toArray⟩, v, .int .i64 x, .int .u8 g] w fun e w' => e = .returned (.bool true) ∧ Below w.heap.size w w' := by
  have hs' : s.length ≤ 9223372036854775807 := by omega
  have cOwn := Lib.hid fun w x h => own6_any x l w h hl
  have cI := fun w x h => invert_any s x l w hs' h hd
  have H := Lib.hid h
  by_cases h0 : fitE s l = 0
  · have e4 := (back h0).2.2.2.1
    have wV := wf_ok e4
    obtain ⟨p1, p2, p3, p4⟩ := inv_pos h0 x g
    have cOwnV := Lib.hid fun w x h => own6_any x (inverseS s l) w h (len32b e4)
    have c1 := fun w z h => back_any z l x g w h hd
    have c2 := fun w z h => position_any z (inverseS s l) x g w h wV
    have c3 := fun w z h => position_any z l x g w h hd
    have c4 := fun w z h => back_any z (inverseS s l) x g w h wV
    simp only [h0] at cI
    simp only [p1, p2] at c2
    simp only [p3, p4] at c4
    generalize backV l x g = P1 at *
    generalize backE l x g = P2 at *
    generalize posV l x g = P3 at *
    generalize posE l x g = P4 at *
    generalize inverseS s l = V at *
    have CI := Lib.hid cI; have C1 := Lib.hid c1; have C2 := Lib.hid c2; have C3 := Lib.hid c3; have C4 := Lib.hid c4
    clear cI c1 c2 c3 c4 h hd hl h0 e4 wV p1 p2 p3 p4 hs hs'
    go_enter Try.func19, Try.ntmps19
    go_wp2_with fail
    refine (cOwn.out _ _ H.out).mono ?_
    rintro e w1 ⟨x0, rfl, ho, hb⟩
    have H_1 := Lib.hid (H.out.ext hb)
    have X_1 := Lib.hid (Sl.of_own ho)
    have B_1 := Lib.hid hb
    clear hb ho H
    go_wp2_with fail
    refine (CI.out _ _ X_1.out).mono ?_
    rintro e w2 ⟨vv, rfl, ho, hb⟩
    have H_2 := Lib.hid (H_1.out.ext hb)
    have V_2 := Lib.hid (Sl.of_own ho)
    have B_2 := Lib.hid (B_1.out.trans (hb.mono B_1.out.size))
    clear hb ho X_1 H_1 B_1
    go_wp2_with fail
    refine (cOwn.out _ _ H_2.out).mono ?_
    rintro e w3 ⟨x2, rfl, ho, hb⟩
    have H_3 := Lib.hid (H_2.out.ext hb)
    have V_3 := Lib.hid (V_2.out.ext hb)
    have X_3 := Lib.hid (Sl.of_own ho)
    have B_3 := Lib.hid (B_2.out.trans (hb.mono B_2.out.size))
    clear hb ho H_2 V_2 B_2
    go_wp2_with fail
    refine (C1.out _ _ X_3.out).mono ?_
    rintro e w4 ⟨rfl, hb⟩
    have H_4 := Lib.hid (H_3.out.ext hb)
    have V_4 := Lib.hid (V_3.out.ext hb)
    have B_4 := Lib.hid (B_3.out.trans (hb.mono B_3.out.size))
    clear hb X_3 H_3 V_3 B_3
    go_wp2_with fail
    refine (cOwnV.out _ _ V_4.out).mono ?_
    rintro e w5 ⟨x4, rfl, ho, hb⟩
    have H_5 := Lib.hid (H_4.out.ext hb)
    have V_5 := Lib.hid (V_4.out.ext hb)
    have X_5 := Lib.hid (Sl.of_own ho)
    have B_5 := Lib.hid (B_4.out.trans (hb.mono B_4.out.size))
    clear hb ho H_4 V_4 B_4
    go_wp2_with fail
    refine (C2.out _ _ X_5.out).mono ?_
    rintro e w6 ⟨rfl, hb⟩
    have H_6 := Lib.hid (H_5.out.ext hb)
    have V_6 := Lib.hid (V_5.out.ext hb)
    have B_6 := Lib.hid (B_5.out.trans (hb.mono B_5.out.size))
    clear hb X_5 H_5 V_5 B_5
    go_wp2_with fail
    refine (cOwn.out _ _ H_6.out).mono ?_
    rintro e w7 ⟨x6, rfl, ho, hb⟩
    have V_7 := Lib.hid (V_6.out.ext hb)
    have X_7 := Lib.hid (Sl.of_own ho)
    have B_7 := Lib.hid (B_6.out.trans (hb.mono B_6.out.size))
    clear hb ho H_6 V_6 B_6
    go_wp2_with fail
    refine (C3.out _ _ X_7.out).mono ?_
    rintro e w8 ⟨rfl, hb⟩
    have V_8 := Lib.hid (V_7.out.ext hb)
    have B_8 := Lib.hid (B_7.out.trans (hb.mono B_7.out.size))
    clear hb X_7 V_7 B_7
    go_wp2_with fail
    refine (cOwnV.out _ _ V_8.out).mono ?_
    rintro e w9 ⟨x8, rfl, ho, hb⟩
    have X_9 := Lib.hid (Sl.of_own ho)
    have B_9 := Lib.hid (B_8.out.trans (hb.mono B_8.out.size))
    clear hb ho V_8 B_8
    go_wp2_with fail
    refine (C4.out _ _ X_9.out).mono ?_
    rintro e w10 ⟨rfl, hb⟩
    have B_10 := Lib.hid (B_9.out.trans (hb.mono B_9.out.size))
    clear hb X_9 B_9
    go_wp2_with fail
    refine (known6_any _).mono ?_
    rintro e w11 ⟨rfl, hb⟩
    have B_11 := Lib.hid (B_10.out.trans (hb.mono B_10.out.size))
    clear hb B_10
    go_wp2
    go_ret
    exact ⟨rfl, B_11.out⟩
  · have hb : (fitE s l != 0) = true := by simpa using h0
    generalize inverseS s l = V at *
    generalize fitE s l = E at *
    have CI := Lib.hid cI
    clear cI h hd hl h0 hs hs'
    go_enter Try.func19, Try.ntmps19
    go_wp2_with fail
    refine (cOwn.out _ _ H.out).mono ?_
    rintro e w1 ⟨x0, rfl, ho, hb⟩
    have X_1 := Lib.hid (Sl.of_own ho)
    have B_1 := Lib.hid hb
    clear hb ho H
    go_wp2_with fail
    refine (CI.out _ _ X_1.out).mono ?_
    rintro e w2 ⟨vv, rfl, ho, hb⟩
    have B_2 := Lib.hid (B_1.out.trans (hb.mono B_1.out.size))
    clear hb ho X_1 B_1
    go_wp2_with fail
    refine (known6_any _).mono ?_
    rintro e w3 ⟨rfl, hb⟩
    have B_3 := Lib.hid (B_2.out.trans (hb.mono B_2.out.size))
    clear hb B_2
    go_wp2
    go_ret
    exact ⟨rfl, B_3.out⟩

end Go.Proofs.Ytpbnciioeiohlaa