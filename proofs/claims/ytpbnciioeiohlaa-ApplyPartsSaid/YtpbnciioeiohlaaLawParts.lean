/- quartolaw04.ApplyParts returns true: the walk. -/
import Derived.Test.YtpbnciioeiohlaaJoin
import Derived.Test.YtpbnciioeiohlaaLawEdits
namespace Go.Proofs.Ytpbnciioeiohlaa
open Go.RowKit

theorem rem_len {l : List Pc} (hl : Val l) : ∀ s : List UInt8, inL l ≤ s.length → outL l + (insS (invGo s l)).length = inL l + (insS l).length := by
  induction l with
  | nil => intro s _; rfl
  | cons p l ih =>
    intro s h
    obtain ⟨v1, v2⟩ := Val.cons.1 hl
    have hn := Val.n v1
    have hi := Val.inL v2
    simp only [inL] at h
    have := ih v2 (s.drop p.n.toNat) (by rw [List.length_drop]; omega)
    simp only [invGo, insS, List.flatMap_cons, List.length_append, inL, outL] at this ⊢
    rcases Pc.valid_cases v1 with ⟨x, y, z⟩ | ⟨x, y, z⟩ | ⟨x, y, z⟩
    · have e1 : (invP (s.take p.n.toNat) p).t.length = 0 := by simp [invP, x, z]
      have e2 : p.out = p.n := by simp [Pc.out, x]
      rw [e2, z]
      simp only [List.length_nil]
      omega
    · have e1 : (invP (s.take p.n.toNat) p).t.length = p.n.toNat := by simp [invP, x]; omega
      have e2 : p.out = 0 := by simp [Pc.out, x]
      rw [e2, z]
      simp only [List.length_nil]
      omega
    · have e1 : (invP (s.take p.n.toNat) p).t.length = 0 := by simp [invP, x]
      have e2 : p.out = p.t.length := by simp [Pc.out, x]
      rw [e2]
      omega
theorem parts_len {s : List UInt8} {l : List Pc} (h : fitE s l = 0) : ((applyS s l).length : Int) = (s.length : Int) + (insertedS l).length - (removedS s l).length := by
  obtain ⟨h1, h2, h3⟩ := fit_ok h
  have e1 := rem_len h2 s (by omega)
  have e2 : insertedS l = insS l := by rw [insertedS, if_pos h1]
  have e3 : removedS s l = insS (invGo s l) := by rw [removedS, if_pos h, (part_out h2 (by omega)).2]
  rw [(apply_eq h).2, e2, e3]
  omega
theorem val_left (s t : List UInt8) {x : Int} (h : x < s.length) : valA (s ++ t) x = valA s x := by
  unfold valA
  split
  · rfl
  · rw [List.getD_eq_getElem?_getD, List.getD_eq_getElem?_getD, List.getElem?_append_left (by omega)]
theorem apply_join {s t : List UInt8} {a b : List Pc} (ha : fitE s a = 0) (hb : fitE t b = 0) (he : errL (formS (a ++ b)) = 0) :
    fitE (s ++ t) (formS (a ++ b)) = 0 ∧ applyS (s ++ t) (formS (a ++ b)) = applyS s a ++ applyS t b := by
  obtain ⟨a1, a2, a3⟩ := fit_ok ha
  obtain ⟨b1, b2, b3⟩ := fit_ok hb
  have hv : Val (a ++ b) := Val.append.2 ⟨a2, b2⟩
  have hin : inL (a ++ b) = (s ++ t).length := by rw [inL_append, List.length_append]; omega
  have hf : fitE (s ++ t) (formS (a ++ b)) = 0 := fit_of he (by rw [(formS_ok hv).2.2, hin])
  refine ⟨hf, ?_⟩
  rw [(apply_eq hf).1, (formS_ok hv).2.1, atoms_append, List.map_append, (apply_eq ha).1, (apply_eq hb).1, a3, Int.zero_add]
  congr 1
  · refine List.map_congr_left fun x hx => val_left s t ?_
    rcases (a2.rising (Int.le_refl _)).mem x hx with ⟨h1, _⟩ | ⟨_, h2, _⟩
    · omega
    · omega
  · have e1 := (part_fold b2 (s ++ t) s.length [] [] [] (by omega) (by rw [List.length_append]; omega)).1
    have e2 := (part_fold b2 t 0 [] [] [] (by omega) (by omega)).1
    simp only [Int.toNat_natCast, List.drop_left, List.nil_append, Int.toNat_zero, List.drop_zero] at e1 e2
    rw [← e1, ← e2]
theorem sll_fresh {w : World} (vs : List SV) (L : List (List Pc)) (t : TypeId) (hl : vs.length = L.length) (hm : vs.length ≤ maxLen) (h : ∀ (i : Nat) (x : SV) (l : List Pc), vs[i]? = some x → L[i]? = some l → Sl pcE w x.v l) :
    Sll (w.alloc (.cells (vs.map SV.v).toArray t)) (.slice (some ⟨w.heap.size, 0, none⟩) vs.length vs.length) L := by
  refine ⟨vs, ⟨_, _, rfl, Nat.le_refl _, hm, fun _ => ⟨_, _, rfl, by simp, fun i j x u hx hu => ?_⟩⟩, hl, fun i x l hx hl => (h i x l hx hl).alloc _⟩
  rw [Lib.cell_of_heap (heap_alloc_new w _), Nat.zero_add]
  have hj : j = 0 := by
    have := (List.getElem?_eq_some_iff.1 hu).1
    simp [svE] at this
    omega
  subst hj
  simp only [svE, List.getElem?_cons_zero, Option.some.injEq] at hu
  subst hu
  simp [svE, hx]
theorem sll_two {w : World} {A B : Option Addr} {c d : Nat} {a b : List Pc} (t : TypeId) (ha : Sl pcE w (.slice A a.length c) a) (hb : Sl pcE w (.slice B b.length d) b) :
    Sll (w.alloc (.cells #[.slice A a.length c, .slice B b.length d] t)) (.slice (some ⟨w.heap.size, 0, none⟩) 2 2) [a, b] := by
  refine sll_fresh [⟨A, a.length, c⟩, ⟨B, b.length, d⟩] [a, b] t rfl (by simp [maxLen]) fun i x l hx hl => ?_
  match i with
  | 0 => simp at hx hl; subst hx hl; exact ha
  | 1 => simp at hx hl; subst hx hl; exact hb
  | n + 2 => simp at hx

set_option maxHeartbeats 4000000 in
set_option maxRecDepth 100000 in
theorem lawApplyParts_any (s t : List UInt8) (v : Value) (l : List Pc) (u : Value) (m : List Pc) (w : World) (hs : s.length ≤ 140737488351232) (ht : t.length ≤ 140737488351232) (h : Sl pcE w v l) (hd : ∀ p, p ∈ l → p.wf) (hl : l.length * 32 ≤ 140737488355328) (h' : Sl pcE w u m) (hd' : ∀ p, p ∈ m → p.wf) (hl' : m.length * 32 ≤ 140737488355328) :
    Calls Try.prog 18 #[.string ⟨s.toArray⟩, .string ⟨t.toArray⟩, v, u] w fun e w' => e = .returned (.bool true) ∧ Below w.heap.size w w' := by
  have hs' : s.length ≤ 9223372036854775807 := by omega
  have ht' : t.length ≤ 9223372036854775807 := by omega
  have cOwn := Lib.hid fun w x h => own_any x l w h hl
  have cOwnM := Lib.hid fun w x h => own_any x m w h hl'
  have cA := fun w x h => apply_any s x l w hs' h hd
  have cB := fun w x h => apply_any t x m w ht' h hd'
  have H := Lib.hid h; have K := Lib.hid h'
  by_cases h0 : fitE s l = 0
  · by_cases h1 : fitE t m = 0
    · have cI := fun w x h => inserted_any x l w h hd
      have cR := fun w x h => removed_any s x l w hs' h hd
      have hlen := parts_len h0
      obtain ⟨a1, a2, a3⟩ := fit_ok h0
      obtain ⟨b1, b2, b3⟩ := fit_ok h1
      have e1 := (apply_eq h0).2
      have e2 := (apply_eq h1).2
      obtain ⟨a4, a5, a6, a7⟩ := (errL_iff l).1 a1
      obtain ⟨b4, b5, b6, b7⟩ := (errL_iff m).1 b1
      have hins : (insertedS l).length ≤ 4294967296 := by
        have := insS_bd (l := l) (d := 1048576) (fun p hp => ((formPre_of_lens a1).2 p hp).2.2)
        rw [insertedS, if_pos a1]; omega
      have cJ := fun w x h => join_any x [l, m] w h (by intro q hq; simp at hq; rcases hq with rfl | rfl; exact a1; exact b1) (by simp; omega)
      simp only [h0, a1] at cA cI cR
      simp only [h1] at cB
      have hF : [l, m].flatten = l ++ m := by simp
      by_cases h2 : errL (formS (l ++ m)) = 0
      · obtain ⟨f1, f2⟩ := apply_join h0 h1 h2
        have hJ : joinE [l, m] = 0 := by rw [joinE, hF, if_pos h2]
        have hS : joinS [l, m] = formS (l ++ m) := by rw [joinS, if_pos hJ, hF]
        have wV := wf_of_err h2
        have cC := fun w x h => apply_any (s ++ t) x (formS (l ++ m)) w (by rw [List.length_append]; omega) h wV
        simp only [f1, f2] at cC
        simp only [hJ, hS] at cJ
        generalize formS (l ++ m) = V at *
        generalize applyS s l = T at *
        generalize applyS t m = U at *
        generalize insertedS l = I at *
        generalize removedS s l = R at *
        have hx1 : (⟨s.toArray⟩ : ByteArray) ++ ⟨t.toArray⟩ = ⟨(s ++ t).toArray⟩ := str_app _ _
        have hx2 : (⟨T.toArray⟩ : ByteArray) ++ ⟨U.toArray⟩ = ⟨(T ++ U).toArray⟩ := str_app _ _
        have cA' := Lib.hid cA; have cB' := Lib.hid cB; have cI' := Lib.hid cI; have cR' := Lib.hid cR; have cJ' := Lib.hid cJ; have cC' := Lib.hid cC
        have hTl : (T.length : Int) ≤ 1048576 := by omega
        have hUl : (U.length : Int) ≤ 1048576 := by omega
        clear cA cB cI cR cJ cC hJ hS wV h0 h1 h2 f1 f2 a1 a2 a3 a4 a5 a6 a7 b1 b2 b3 b4 b5 b6 b7 hF h h' hd hd' hl hl' e1 e2
        go_enter Try.func18, Try.ntmps18
        go_wp2_with fail
        refine (cOwn.out _ _ H.out).mono ?_
        rintro e w1 ⟨x, rfl, ho, hb⟩
        have H_1 := Lib.hid (H.out.ext hb)
        have K_1 := Lib.hid (K.out.ext hb)
        have X_1 := Lib.hid (Sl.of_own ho)
        have B_1 := Lib.hid hb
        clear hb ho H K
        go_wp2_with fail
        refine (cA'.out _ _ X_1.out).mono ?_
        rintro e w2 ⟨rfl, hb⟩
        have H_2 := Lib.hid (H_1.out.ext hb)
        have K_2 := Lib.hid (K_1.out.ext hb)
        have B_2 := Lib.hid (B_1.out.trans (hb.mono B_1.out.size))
        clear hb X_1 H_1 K_1 B_1
        go_wp2_with fail
        refine (cOwnM.out _ _ K_2.out).mono ?_
        rintro e w3 ⟨x, rfl, ho, hb⟩
        have H_3 := Lib.hid (H_2.out.ext hb)
        have K_3 := Lib.hid (K_2.out.ext hb)
        have X_3 := Lib.hid (Sl.of_own ho)
        have B_3 := Lib.hid (B_2.out.trans (hb.mono B_2.out.size))
        clear hb ho H_2 K_2 B_2
        go_wp2_with fail
        refine (cB'.out _ _ X_3.out).mono ?_
        rintro e w4 ⟨rfl, hb⟩
        have H_4 := Lib.hid (H_3.out.ext hb)
        have K_4 := Lib.hid (K_3.out.ext hb)
        have B_4 := Lib.hid (B_3.out.trans (hb.mono B_3.out.size))
        clear hb X_3 H_3 K_3 B_3
        go_wp2_with fail
        refine (cOwn.out _ _ H_4.out).mono ?_
        rintro e w5 ⟨x, rfl, ho, hb⟩
        have H_5 := Lib.hid (H_4.out.ext hb)
        have K_5 := Lib.hid (K_4.out.ext hb)
        have X_5 := Lib.hid (Sl.of_own ho)
        have B_5 := Lib.hid (B_4.out.trans (hb.mono B_4.out.size))
        clear hb ho H_4 K_4 B_4
        go_wp2_with fail
        refine (cI'.out _ _ X_5.out).mono ?_
        rintro e w6 ⟨rfl, hb⟩
        have H_6 := Lib.hid (H_5.out.ext hb)
        have K_6 := Lib.hid (K_5.out.ext hb)
        have B_6 := Lib.hid (B_5.out.trans (hb.mono B_5.out.size))
        clear hb X_5 H_5 K_5 B_5
        go_wp2_with fail
        refine (cOwn.out _ _ H_6.out).mono ?_
        rintro e w7 ⟨x, rfl, ho, hb⟩
        have H_7 := Lib.hid (H_6.out.ext hb)
        have K_7 := Lib.hid (K_6.out.ext hb)
        have X_7 := Lib.hid (Sl.of_own ho)
        have B_7 := Lib.hid (B_6.out.trans (hb.mono B_6.out.size))
        clear hb ho H_6 K_6 B_6
        go_wp2_with fail
        refine (cR'.out _ _ X_7.out).mono ?_
        rintro e w8 ⟨rfl, hb⟩
        have H_8 := Lib.hid (H_7.out.ext hb)
        have K_8 := Lib.hid (K_7.out.ext hb)
        have B_8 := Lib.hid (B_7.out.trans (hb.mono B_7.out.size))
        clear hb X_7 H_7 K_7 B_7
        go_wp2_with fail
        refine (cOwn.out _ _ H_8.out).mono ?_
        rintro e w9 ⟨x, rfl, ho, hb⟩
        have K_9 := Lib.hid (K_8.out.ext hb)
        have X_9 := Lib.hid (Sl.of_own ho)
        have B_9 := Lib.hid (B_8.out.trans (hb.mono B_8.out.size))
        clear hb ho H_8 K_8 B_8
        go_wp2_with fail
        refine (cOwnM.out _ _ K_9.out).mono ?_
        rintro e w10 ⟨y, rfl, ho, hb⟩
        have X_10 := Lib.hid (X_9.out.ext hb)
        have Y_10 := Lib.hid (Sl.of_own ho)
        have B_10 := Lib.hid (B_9.out.trans (hb.mono B_9.out.size))
        clear hb ho K_9 X_9 B_9
        obtain ⟨A1, c1, rfl, -, -, -⟩ := id X_10.out
        obtain ⟨A2, c2, rfl, -, -, -⟩ := id Y_10.out
        have J0 := Lib.hid (sll_two 22 X_10.out Y_10.out)
        have BJ := Lib.hid (B_10.out.alloc B_10.out.size (.cells #[.slice A1 l.length c1, .slice A2 m.length c2] 22))
        clear X_10 Y_10 B_10
        go_wp2_with fail
        refine (cJ'.out _ _ J0.out).mono ?_
        rintro e w11 ⟨v9, rfl, ho, hb⟩
        have V_11 := Lib.hid (Sl.of_own ho)
        have B_11 := Lib.hid (BJ.out.trans (hb.mono BJ.out.size))
        clear hb ho BJ
        go_wp2_with fail
        refine (cC'.out _ _ V_11.out).mono ?_
        rintro e w12 ⟨rfl, hb⟩
        have B_12 := Lib.hid (B_11.out.trans (hb.mono B_11.out.size))
        clear hb V_11 B_11
        go_wp2_with fail
        refine (known_any _).mono ?_
        rintro e w13 ⟨rfl, hb⟩
        have B_13 := Lib.hid (B_12.out.trans (hb.mono B_12.out.size))
        clear hb B_12
        go_wp2
        go_ret
        exact ⟨rfl, B_13.out⟩
      · have hJ : joinE [l, m] = 5 := by rw [joinE, hF, if_neg h2]
        simp only [hJ] at cJ
        generalize joinS [l, m] = V at *
        generalize applyS s l = T at *
        generalize applyS t m = U at *
        generalize insertedS l = I at *
        generalize removedS s l = R at *
        have cA' := Lib.hid cA; have cB' := Lib.hid cB; have cI' := Lib.hid cI; have cR' := Lib.hid cR; have cJ' := Lib.hid cJ
        have hTl : (T.length : Int) ≤ 1048576 := by omega
        clear cA cB cI cR cJ hJ h0 h1 h2 a1 a2 a3 a4 a5 a6 a7 b1 b2 b3 b4 b5 b6 b7 hF h h' hd hd' hl hl' e1 e2
        go_enter Try.func18, Try.ntmps18
        go_wp2_with fail
        refine (cOwn.out _ _ H.out).mono ?_
        rintro e w1 ⟨x, rfl, ho, hb⟩
        have H_1 := Lib.hid (H.out.ext hb)
        have K_1 := Lib.hid (K.out.ext hb)
        have X_1 := Lib.hid (Sl.of_own ho)
        have B_1 := Lib.hid hb
        clear hb ho H K
        go_wp2_with fail
        refine (cA'.out _ _ X_1.out).mono ?_
        rintro e w2 ⟨rfl, hb⟩
        have H_2 := Lib.hid (H_1.out.ext hb)
        have K_2 := Lib.hid (K_1.out.ext hb)
        have B_2 := Lib.hid (B_1.out.trans (hb.mono B_1.out.size))
        clear hb X_1 H_1 K_1 B_1
        go_wp2_with fail
        refine (cOwnM.out _ _ K_2.out).mono ?_
        rintro e w3 ⟨x, rfl, ho, hb⟩
        have H_3 := Lib.hid (H_2.out.ext hb)
        have K_3 := Lib.hid (K_2.out.ext hb)
        have X_3 := Lib.hid (Sl.of_own ho)
        have B_3 := Lib.hid (B_2.out.trans (hb.mono B_2.out.size))
        clear hb ho H_2 K_2 B_2
        go_wp2_with fail
        refine (cB'.out _ _ X_3.out).mono ?_
        rintro e w4 ⟨rfl, hb⟩
        have H_4 := Lib.hid (H_3.out.ext hb)
        have K_4 := Lib.hid (K_3.out.ext hb)
        have B_4 := Lib.hid (B_3.out.trans (hb.mono B_3.out.size))
        clear hb X_3 H_3 K_3 B_3
        go_wp2_with fail
        refine (cOwn.out _ _ H_4.out).mono ?_
        rintro e w5 ⟨x, rfl, ho, hb⟩
        have H_5 := Lib.hid (H_4.out.ext hb)
        have K_5 := Lib.hid (K_4.out.ext hb)
        have X_5 := Lib.hid (Sl.of_own ho)
        have B_5 := Lib.hid (B_4.out.trans (hb.mono B_4.out.size))
        clear hb ho H_4 K_4 B_4
        go_wp2_with fail
        refine (cI'.out _ _ X_5.out).mono ?_
        rintro e w6 ⟨rfl, hb⟩
        have H_6 := Lib.hid (H_5.out.ext hb)
        have K_6 := Lib.hid (K_5.out.ext hb)
        have B_6 := Lib.hid (B_5.out.trans (hb.mono B_5.out.size))
        clear hb X_5 H_5 K_5 B_5
        go_wp2_with fail
        refine (cOwn.out _ _ H_6.out).mono ?_
        rintro e w7 ⟨x, rfl, ho, hb⟩
        have H_7 := Lib.hid (H_6.out.ext hb)
        have K_7 := Lib.hid (K_6.out.ext hb)
        have X_7 := Lib.hid (Sl.of_own ho)
        have B_7 := Lib.hid (B_6.out.trans (hb.mono B_6.out.size))
        clear hb ho H_6 K_6 B_6
        go_wp2_with fail
        refine (cR'.out _ _ X_7.out).mono ?_
        rintro e w8 ⟨rfl, hb⟩
        have H_8 := Lib.hid (H_7.out.ext hb)
        have K_8 := Lib.hid (K_7.out.ext hb)
        have B_8 := Lib.hid (B_7.out.trans (hb.mono B_7.out.size))
        clear hb X_7 H_7 K_7 B_7
        go_wp2_with fail
        refine (cOwn.out _ _ H_8.out).mono ?_
        rintro e w9 ⟨x, rfl, ho, hb⟩
        have K_9 := Lib.hid (K_8.out.ext hb)
        have X_9 := Lib.hid (Sl.of_own ho)
        have B_9 := Lib.hid (B_8.out.trans (hb.mono B_8.out.size))
        clear hb ho H_8 K_8 B_8
        go_wp2_with fail
        refine (cOwnM.out _ _ K_9.out).mono ?_
        rintro e w10 ⟨y, rfl, ho, hb⟩
        have X_10 := Lib.hid (X_9.out.ext hb)
        have Y_10 := Lib.hid (Sl.of_own ho)
        have B_10 := Lib.hid (B_9.out.trans (hb.mono B_9.out.size))
        clear hb ho K_9 X_9 B_9
        obtain ⟨A1, c1, rfl, -, -, -⟩ := id X_10.out
        obtain ⟨A2, c2, rfl, -, -, -⟩ := id Y_10.out
        have J0 := Lib.hid (sll_two 22 X_10.out Y_10.out)
        have BJ := Lib.hid (B_10.out.alloc B_10.out.size (.cells #[.slice A1 l.length c1, .slice A2 m.length c2] 22))
        clear X_10 Y_10 B_10
        go_wp2_with fail
        refine (cJ'.out _ _ J0.out).mono ?_
        rintro e w11 ⟨v9, rfl, ho, hb⟩
        have B_11 := Lib.hid (BJ.out.trans (hb.mono BJ.out.size))
        clear hb ho BJ
        go_wp2_with fail
        refine (known_any _).mono ?_
        rintro e w12 ⟨rfl, hb⟩
        have B_12 := Lib.hid (B_11.out.trans (hb.mono B_11.out.size))
        clear hb B_11
        go_wp2
        go_ret
        exact ⟨rfl, B_12.out⟩
    · have hb : (fitE t m != 0) = true := by simpa using h1
      simp only [h0] at cA
      generalize applyS s l = T at *
      generalize applyS t m = U at *
      generalize fitE t m = E at *
      have cA' := Lib.hid cA; have cB' := Lib.hid cB
      clear cA cB h0 h1 h h' hd hd' hl hl'
      go_enter Try.func18, Try.ntmps18
      go_wp2_with fail
      refine (cOwn.out _ _ H.out).mono ?_
      rintro e w1 ⟨x, rfl, ho, hb⟩
      have H_1 := Lib.hid (H.out.ext hb)
      have K_1 := Lib.hid (K.out.ext hb)
      have X_1 := Lib.hid (Sl.of_own ho)
      have B_1 := Lib.hid hb
      clear hb ho H K
      go_wp2_with fail
      refine (cA'.out _ _ X_1.out).mono ?_
      rintro e w2 ⟨rfl, hb⟩
      have H_2 := Lib.hid (H_1.out.ext hb)
      have K_2 := Lib.hid (K_1.out.ext hb)
      have B_2 := Lib.hid (B_1.out.trans (hb.mono B_1.out.size))
      clear hb X_1 H_1 K_1 B_1
      go_wp2_with fail
      refine (cOwnM.out _ _ K_2.out).mono ?_
      rintro e w3 ⟨x, rfl, ho, hb⟩
      have H_3 := Lib.hid (H_2.out.ext hb)
      have K_3 := Lib.hid (K_2.out.ext hb)
      have X_3 := Lib.hid (Sl.of_own ho)
      have B_3 := Lib.hid (B_2.out.trans (hb.mono B_2.out.size))
      clear hb ho H_2 K_2 B_2
      go_wp2_with fail
      refine (cB'.out _ _ X_3.out).mono ?_
      rintro e w4 ⟨rfl, hb⟩
      have H_4 := Lib.hid (H_3.out.ext hb)
      have K_4 := Lib.hid (K_3.out.ext hb)
      have B_4 := Lib.hid (B_3.out.trans (hb.mono B_3.out.size))
      clear hb X_3 H_3 K_3 B_3
      go_wp2_with fail
      refine (known_any _).mono ?_
      rintro e w5 ⟨rfl, hb⟩
      have B_5 := Lib.hid (B_4.out.trans (hb.mono B_4.out.size))
      clear hb H_4 K_4 B_4
      go_wp2
      go_ret
      exact ⟨rfl, B_5.out⟩
  · have hb : (fitE s l != 0) = true := by simpa using h0
    generalize applyS s l = T at *
    generalize applyS t m = U at *
    generalize fitE s l = E at *
    generalize fitE t m = E2 at *
    have cA' := Lib.hid cA; have cB' := Lib.hid cB
    clear cA cB h0 h h' hd hd' hl hl'
    go_enter Try.func18, Try.ntmps18
    go_wp2_with fail
    refine (cOwn.out _ _ H.out).mono ?_
    rintro e w1 ⟨x, rfl, ho, hb⟩
    have H_1 := Lib.hid (H.out.ext hb)
    have K_1 := Lib.hid (K.out.ext hb)
    have X_1 := Lib.hid (Sl.of_own ho)
    have B_1 := Lib.hid hb
    clear hb ho H K
    go_wp2_with fail
    refine (cA'.out _ _ X_1.out).mono ?_
    rintro e w2 ⟨rfl, hb⟩
    have H_2 := Lib.hid (H_1.out.ext hb)
    have K_2 := Lib.hid (K_1.out.ext hb)
    have B_2 := Lib.hid (B_1.out.trans (hb.mono B_1.out.size))
    clear hb X_1 H_1 K_1 B_1
    go_wp2_with fail
    refine (cOwnM.out _ _ K_2.out).mono ?_
    rintro e w3 ⟨x, rfl, ho, hb⟩
    have H_3 := Lib.hid (H_2.out.ext hb)
    have K_3 := Lib.hid (K_2.out.ext hb)
    have X_3 := Lib.hid (Sl.of_own ho)
    have B_3 := Lib.hid (B_2.out.trans (hb.mono B_2.out.size))
    clear hb ho H_2 K_2 B_2
    go_wp2_with fail
    refine (cB'.out _ _ X_3.out).mono ?_
    rintro e w4 ⟨rfl, hb⟩
    have H_4 := Lib.hid (H_3.out.ext hb)
    have K_4 := Lib.hid (K_3.out.ext hb)
    have B_4 := Lib.hid (B_3.out.trans (hb.mono B_3.out.size))
    clear hb X_3 H_3 K_3 B_3
    go_wp2_with fail
    refine (known_any _).mono ?_
    rintro e w5 ⟨rfl, hb⟩
    have B_5 := Lib.hid (B_4.out.trans (hb.mono B_4.out.size))
    clear hb H_4 K_4 B_4
    go_wp2
    go_ret
    exact ⟨rfl, B_5.out⟩

end Go.Proofs.Ytpbnciioeiohlaa
