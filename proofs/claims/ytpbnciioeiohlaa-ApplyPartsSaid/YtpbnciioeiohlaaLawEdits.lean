/- quartolaw04.ApplyEdits returns true: the walk. -/
import Derived.Test.YtpbnciioeiohlaaLawBack
import Derived.StillTailTactics
import Derived.IntWalk
namespace Go.Proofs.Ytpbnciioeiohlaa
open Go.RowKit

theorem putP_part (s : List UInt8) (l : List Pc) (p : Pc) (hk : p.k = 1 ∨ p.k = 2 ∨ p.k = 3) : partSt s (putP l p) = partStep (partSt s l) p := by
  have e : partSt s (l ++ [p]) = partStep (partSt s l) p := by simp [partSt]
  unfold putP
  split
  · exact e
  · rename_i h
    have h1 : p.n.toNat = 0 := by
      have : ¬ 0 < p.n := fun h' => h (.inl h')
      omega
    have h2 : p.t = [] := Classical.byContradiction fun h' => h (.inr h')
    rcases hk with x | x | x
    · rw [partStep1 x, h1]; simp
    · rw [partStep2 x, h2]; simp
    · rw [partStep3 x, h1]; simp
theorem putP_inL (l : List Pc) (p : Pc) (h : 0 ≤ p.n) : inL (putP l p) = inL l + p.n := by
  unfold putP
  split
  · simp [inL_append, inL]
  · rename_i h'
    have : ¬ 0 < p.n := fun h'' => h' (.inl h'')
    omega
theorem repl_facts {s t : List UInt8} {a k : Int} (h : replE s.length a k t = 0) :
    (0 ≤ a ∧ a ≤ s.length ∧ 0 ≤ k ∧ k ≤ s.length - a) ∧ fitE s (replS s.length a k t) = 0 ∧ applyS s (replS s.length a k t) = s.take a.toNat ++ t ++ s.drop (a.toNat + k.toNat) ∧ normB (replS s.length a k t) = true ∧ errL (replS s.length a k t) = 0 := by
  have he := repl_err h
  have hS : replS s.length a k t = formS (replL s.length a k t) := by simp [replS, h]
  unfold replE at h
  split at h
  · cases h
  rename_i h1
  clear h
  have hb : 0 ≤ a ∧ a ≤ s.length ∧ 0 ≤ k ∧ k ≤ s.length - a := by omega
  obtain ⟨b1, b2, b3, b4⟩ := hb
  have hv := ((errL_iff _).1 he).2.1
  have hin : inL (replL s.length a k t) = s.length := by
    unfold replL
    rw [putP_inL _ _ (by dsimp only; omega), putP_inL _ _ (by dsimp only; omega), putP_inL _ _ (by dsimp only; omega), putP_inL _ _ (by dsimp only; omega)]
    simp only [inL]; omega
  have hf := fit_of (s := s) he hin
  rw [hS]
  refine ⟨⟨b1, b2, b3, b4⟩, fit_form hf, ?_, ?_, (lens_formS he).2⟩
  · rw [apply_form hf, applyS, if_pos hf]
    unfold replL
    rw [putP_part _ _ _ (.inl rfl), putP_part _ _ _ (.inr (.inr rfl)), putP_part _ _ _ (.inr (.inl rfl)), putP_part _ _ _ (.inl rfl)]
    rw [partStep1 rfl, partStep3 rfl, partStep2 rfl, partStep1 rfl]
    simp only [partSt, List.foldl_nil, List.nil_append, List.drop_drop]
    rw [List.take_of_length_le (l := s.drop (a.toNat + k.toNat)) (by rw [List.length_drop]; omega)]
  · rw [normB, if_pos (lens_formS he).2, formS_idem hv]
    exact sameB_refl _

theorem str_app (a b : List UInt8) : (⟨a.toArray⟩ : ByteArray) ++ ⟨b.toArray⟩ = ⟨(a ++ b).toArray⟩ := by
  apply ByteArray.ext
  simp

set_option maxHeartbeats 4000000 in
set_option maxRecDepth 100000 in
theorem lawApplyEdits_any (s : List UInt8) (a k : Int) (t : List UInt8) (w : World) (hs : s.length ≤ 140737488351232) (ha : -9223372036854775808 ≤ a) (ha' : a ≤ 9223372036854775807) (hk : -9223372036854775808 ≤ k) (hk' : k ≤ 9223372036854775807) (ht : t.length ≤ 140737488351232) :
    Calls Try.prog 8 #[.string ⟨s.toArray⟩, .int .i64 a, .int .i64 k, .string ⟨t.toArray⟩] w fun e w' => e = .returned (.bool true) ∧ Below w.heap.size w w' := by
  have hs' : s.length ≤ 9223372036854775807 := by omega
  have ht' : t.length ≤ 9223372036854775807 := by omega
  have c1 := fun w => replace_any s.length a k t w (by omega) (by omega) ha ha' hk hk' ht'
  have c2 := Lib.hid fun w => insert_any s.length a t w (by omega) (by omega) ha ha' ht'
  have c3 := Lib.hid fun w => replace_any s.length a 0 t w (by omega) (by omega) ha ha' (by omega) (by omega) ht'
  have c4 := Lib.hid fun w => delete_any s.length a k w (by omega) (by omega) ha ha' hk hk'
  have c5 := Lib.hid fun w => replace_any s.length a k [] w (by omega) (by omega) ha ha' hk hk' (by simp)
  generalize replS s.length a 0 t = L2 at c2 c3
  generalize replS s.length a k [] = L3 at c4 c5
  generalize replE s.length a 0 t = E2 at c2 c3
  generalize replE s.length a k [] = E3 at c4 c5
  by_cases h0 : replE s.length a k t = 0
  · obtain ⟨⟨b1, b2, b3, b4⟩, f1, f2, f3, f4⟩ := repl_facts h0
    have wV := wf_of_err f4
    have cA := fun w x h => apply_any s x (replS s.length a k t) w hs' h wV
    have cN := fun w x h => normal_any x (replS s.length a k t) w h wV
    simp only [h0] at c1
    simp only [f1, f2] at cA
    simp only [f3] at cN
    generalize replS s.length a k t = L1 at *
    have C1 := Lib.hid c1; have CA := Lib.hid cA; have CN := Lib.hid cN
    obtain ⟨m, rfl⟩ := Int.eq_ofNat_of_zero_le b1
    obtain ⟨q, rfl⟩ := Int.eq_ofNat_of_zero_le b3
    have hx1 : (⟨s.toArray⟩ : ByteArray).extract 0 m = ⟨(s.take m).toArray⟩ := by rw [ext_str]; simp
    have hx2 : (⟨s.toArray⟩ : ByteArray).extract (m + q) s.length = ⟨(s.drop (m + q)).toArray⟩ := by rw [ext_str]; simp
    have hx3 : (⟨(s.take m).toArray⟩ : ByteArray) ++ ⟨t.toArray⟩ = ⟨(s.take m ++ t).toArray⟩ := str_app _ _
    have hx4 : (⟨(s.take m ++ t).toArray⟩ : ByteArray) ++ ⟨(s.drop (m + q)).toArray⟩ = ⟨(s.take m ++ t ++ s.drop (m + q)).toArray⟩ := str_app _ _
    have hn1 : ¬ (m : Int) < 0 := by omega
    have hn2 : ¬ (q : Int) < 0 := by omega
    have hn3 : ¬ (s.length : Int) < (m : Int) := by omega
    have hn4 : ¬ (s.length : Int) - (m : Int) < (q : Int) := by omega
    have hw1 : IntKind.i64.wrap ((s.length : Int) - (m : Int)) = (s.length : Int) - (m : Int) := IntWalk.i64_in _ (by omega)
    have hw2 : IntKind.i64.wrap ((m : Int) + (q : Int)) = ((m + q : Nat) : Int) := by rw [IntWalk.i64_in _ (by omega)]; omega
    have hq1 : m + t.length ≤ 9223372036854775807 := by omega
    have hq2 : m + (t.length + (s.length - (m + q))) ≤ 9223372036854775807 := by omega
    have hq3 : m + t.length + (s.length - (m + q)) ≤ 9223372036854775807 := by omega
    have hr := Lib.hid (show (0 : Int) ≤ (m : Int) + (q : Int) ∧ (m : Int) + (q : Int) ≤ (s.length : Int) by omega)
    have ht2 : ((m : Int) + (q : Int)).toNat = m + q := by omega
    have hz : m ≤ s.length := by omega
    have hz2 : m + q ≤ s.length := by omega
    simp only [Int.toNat_natCast] at CA
    clear c1 cA cN h0 f1 f2 f3 f4 wV ht ha ha' hk hk' b1 b3
    go_enter Try.func8, Try.ntmps8
    go_wp2_with fail
    refine (C1.out _).mono ?_
    rintro e w1 ⟨v1, rfl, ho, hb⟩
    have V_1 := Lib.hid (Sl.of_own ho)
    have B_1 := Lib.hid hb
    clear hb ho
    go_wp2_with fail
    refine (CA.out _ _ V_1.out).mono ?_
    rintro e w2 ⟨rfl, hb⟩
    have V_2 := Lib.hid (V_1.out.ext hb)
    have B_2 := Lib.hid (B_1.out.trans (hb.mono B_1.out.size))
    clear hb V_1 B_1
    go_wp2_with fail
    refine wp_region_still_tail 39 (by kernel_rfl) (by kernel_rfl) ?_
    simp only [List.take_succ_cons, List.take_zero, List.drop_succ_cons, List.drop_zero]
    repeat (refine wpStill_step (fun K hK => ?_); have HK := Lib.hid hK; clear hK; go_simp; (try simp only [Int.not_lt.2 hn1, Int.not_lt.2 hn2, Int.not_lt.2 hn4, if_pos hr.out, Nat.not_lt.2 hq1, Nat.not_lt.2 hq3, if_false, true_and, decide_false]); refine HK.out _ ?_; clear HK K)
    refine wpStill_nil ?_
    have HD := Lib.hid (show Below w.heap.size w w2.drew from B_2.out.drew)
    have VD := Lib.hid (show Sl pcE w2.drew v1 L1 from V_2.out)
    change wpList _ _ _ _ _ w2.drew
    generalize w2.drew = w2 at *
    clear B_2 V_2
    go_wp2_with fail
    refine (CN.out _ _ VD.out).mono ?_
    rintro e w3 ⟨rfl, hb⟩
    have B_3 := Lib.hid (HD.out.trans (hb.mono HD.out.size))
    clear hb VD HD
    go_wp2_with fail
    refine (c2.out _).mono ?_
    rintro e w4 ⟨v4, rfl, ho, hb⟩
    have V_4 := Lib.hid (Sl.of_own ho)
    have B_4 := Lib.hid (B_3.out.trans (hb.mono B_3.out.size))
    clear hb ho B_3
    go_wp2_with fail
    refine (c3.out _).mono ?_
    rintro e w5 ⟨v5, rfl, ho, hb⟩
    have V_5 := Lib.hid (V_4.out.ext hb)
    have W_5 := Lib.hid (Sl.of_own ho)
    have B_5 := Lib.hid (B_4.out.trans (hb.mono B_4.out.size))
    clear hb ho V_4 B_4
    go_wp2_with fail
    refine (same_any v4 v5 L2 L2 _ V_5.out W_5.out).mono ?_
    rintro e w6 ⟨rfl, hb⟩
    have B_6 := Lib.hid (B_5.out.trans (hb.mono B_5.out.size))
    clear hb V_5 W_5 B_5
    rw [sameB_refl L2]
    go_wp2_with fail
    refine (c4.out _).mono ?_
    rintro e w7 ⟨v6, rfl, ho, hb⟩
    have V_7 := Lib.hid (Sl.of_own ho)
    have B_7 := Lib.hid (B_6.out.trans (hb.mono B_6.out.size))
    clear hb ho B_6
    go_wp2_with fail
    refine (c5.out _).mono ?_
    rintro e w8 ⟨v7, rfl, ho, hb⟩
    have V_8 := Lib.hid (V_7.out.ext hb)
    have W_8 := Lib.hid (Sl.of_own ho)
    have B_8 := Lib.hid (B_7.out.trans (hb.mono B_7.out.size))
    clear hb ho V_7 B_7
    go_wp2_with fail
    refine (same_any v6 v7 L3 L3 _ V_8.out W_8.out).mono ?_
    rintro e w9 ⟨rfl, hb⟩
    have B_9 := Lib.hid (B_8.out.trans (hb.mono B_8.out.size))
    clear hb V_8 W_8 B_8
    rw [sameB_refl L3]
    go_wp2_with fail
    refine (known_any _).mono ?_
    rintro e w10 ⟨rfl, hb⟩
    have B_10 := Lib.hid (B_9.out.trans (hb.mono B_9.out.size))
    clear hb B_9
    go_wp2
    go_ret
    exact ⟨rfl, B_10.out⟩
  · have hb : (replE s.length a k t == 0) = false := by simpa using h0
    generalize replS s.length a k t = L1 at *
    generalize replE s.length a k t = E1 at *
    have C1 := Lib.hid c1
    clear c1 h0 hs ht ha ha' hk hk'
    go_enter Try.func8, Try.ntmps8
    go_wp2_with fail
    refine (C1.out _).mono ?_
    rintro e w1 ⟨v1, rfl, ho, hb⟩
    have B_1 := Lib.hid hb
    clear hb ho
    go_wp2_with fail
    refine (c2.out _).mono ?_
    rintro e w2 ⟨v4, rfl, ho, hb⟩
    have V_2 := Lib.hid (Sl.of_own ho)
    have B_2 := Lib.hid (B_1.out.trans (hb.mono B_1.out.size))
    clear hb ho B_1
    go_wp2_with fail
    refine (c3.out _).mono ?_
    rintro e w3 ⟨v5, rfl, ho, hb⟩
    have V_3 := Lib.hid (V_2.out.ext hb)
    have W_3 := Lib.hid (Sl.of_own ho)
    have B_3 := Lib.hid (B_2.out.trans (hb.mono B_2.out.size))
    clear hb ho V_2 B_2
    go_wp2_with fail
    refine (same_any v4 v5 L2 L2 _ V_3.out W_3.out).mono ?_
    rintro e w4 ⟨rfl, hb⟩
    have B_4 := Lib.hid (B_3.out.trans (hb.mono B_3.out.size))
    clear hb V_3 W_3 B_3
    rw [sameB_refl L2]
    go_wp2_with fail
    refine (c4.out _).mono ?_
    rintro e w5 ⟨v6, rfl, ho, hb⟩
    have V_5 := Lib.hid (Sl.of_own ho)
    have B_5 := Lib.hid (B_4.out.trans (hb.mono B_4.out.size))
    clear hb ho B_4
    go_wp2_with fail
    refine (c5.out _).mono ?_
    rintro e w6 ⟨v7, rfl, ho, hb⟩
    have V_6 := Lib.hid (V_5.out.ext hb)
    have W_6 := Lib.hid (Sl.of_own ho)
    have B_6 := Lib.hid (B_5.out.trans (hb.mono B_5.out.size))
    clear hb ho V_5 B_5
    go_wp2_with fail
    refine (same_any v6 v7 L3 L3 _ V_6.out W_6.out).mono ?_
    rintro e w7 ⟨rfl, hb⟩
    have B_7 := Lib.hid (B_6.out.trans (hb.mono B_6.out.size))
    clear hb V_6 W_6 B_6
    rw [sameB_refl L3]
    go_wp2_with fail
    refine (known_any _).mono ?_
    rintro e w8 ⟨rfl, hb⟩
    have B_8 := Lib.hid (B_7.out.trans (hb.mono B_7.out.size))
    clear hb B_7
    go_wp2
    go_ret
    exact ⟨rfl, B_8.out⟩

end Go.Proofs.Ytpbnciioeiohlaa
