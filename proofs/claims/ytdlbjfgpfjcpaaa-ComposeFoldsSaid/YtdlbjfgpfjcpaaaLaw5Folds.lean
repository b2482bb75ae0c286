/- quartolaw05.ComposeFolds returns true: the walk. -/
import Derived.Test.YtdlbjfgpfjcpaaaKnown5
import Derived.Test.YtdlbjfgpfjcpaaaPlainC2
import Derived.Test.YtdlbjfgpfjcpaaaAll
namespace Go.Proofs.Ytdlbjfgpfjcpaaa
open Go.RowKit

theorem allG_none : ∀ (L : List (List Pc)) (d : List Pc) (e : Int), (allG d e L).1 ≠ 0 → (allG d e L).2 = [] := by
  intro L
  induction L with
  | nil =>
    intro d e h
    by_cases h0 : e = 0
    · subst h0; simp [allG] at h
    · rw [allG_err h0]
  | cons l L ih =>
    intro d e h
    by_cases h0 : e = 0
    · simp only [allG, if_pos h0] at h ⊢; exact ih _ _ h
    · rw [allG_err h0]
theorem allR_ok (n : Int) (L : List (List Pc)) : errL (allR n L) = 0 := by
  obtain ⟨i1, i2⟩ := idS_ok n
  by_cases h : (allG (idS n) (idE n) L).1 = 0
  · exact (allG_ok L _ _ i1 i2 h).1
  · unfold allR; rw [allG_none _ _ _ h]; decide
theorem Sl.take {α : Type} {E : Enc α} {w : World} {A : Option Addr} {cap : Nat} {l : List α} (h : Sl E w (.slice A l.length cap) l) {p : Nat} (hp : p ≤ l.length) : Sl E w (.slice A p cap) (l.take p) := by
  obtain ⟨B, c, e, h2, h3, h4⟩ := h
  injection e with e1 e2 e3
  subst e1 e3
  have hl : (l.take p).length = p := by rw [List.length_take]; omega
  refine ⟨A, cap, by rw [hl], by omega, h3, fun h0 => ?_⟩
  obtain ⟨b, off, e, hb, hc⟩ := h4 (by omega)
  refine ⟨b, off, e, hb, fun i j x u hx hu => hc i j x u ?_ hu⟩
  have hi : i < p := by
    have := (List.getElem?_eq_some_iff.1 hx).1
    omega
  rwa [List.getElem?_take_of_lt hi] at hx
theorem Sl.drop {α : Type} {E : Enc α} {w : World} {A : Option Addr} {cap : Nat} {l : List α} (h : Sl E w (.slice A l.length cap) l) {p : Nat} (hp : p ≤ l.length) (B : Option Addr) (hB : p < l.length → ∀ b off, A = some ⟨b, off, none⟩ → B = some ⟨b, off + p * E.sz, none⟩) : Sl E w (.slice B (l.length - p) (cap - p)) (l.drop p) := by
  obtain ⟨A', c, e, h2, h3, h4⟩ := h
  injection e with e1 e2 e3
  subst e1 e3
  have hl : (l.drop p).length = l.length - p := List.length_drop ..
  refine ⟨B, cap - p, by rw [hl], by omega, by omega, fun h0 => ?_⟩
  obtain ⟨b, off, e, hb, hc⟩ := h4 (by omega)
  refine ⟨b, off + p * E.sz, hB (by omega) b off e, hb, fun i j x u hx hu => ?_⟩
  rw [List.getElem?_drop] at hx
  have := hc _ j x u hx hu
  rwa [Nat.add_mul, Nat.add_assoc, ← Nat.add_assoc off] at this
theorem Sll.take {w : World} {A : Option Addr} {cap : Nat} {L : List (List Pc)} (h : Sll w (.slice A L.length cap) L) {p : Nat} (hp : p ≤ L.length) : Sll w (.slice A p cap) (L.take p) := by
  obtain ⟨vs, h1, h2, h3⟩ := h
  rw [← h2] at h1
  refine ⟨vs.take p, h1.take (by omega), by rw [List.length_take, List.length_take, h2], fun i x l hx hl => ?_⟩
  have hi : i < p := by
    have := (List.getElem?_eq_some_iff.1 hx).1
    rw [List.length_take] at this
    omega
  rw [List.getElem?_take_of_lt hi] at hx hl
  exact h3 i x l hx hl
theorem Sll.drop {w : World} {A : Option Addr} {cap : Nat} {L : List (List Pc)} (h : Sll w (.slice A L.length cap) L) {p : Nat} (hp : p ≤ L.length) (B : Option Addr) (hB : p < L.length → ∀ b off, A = some ⟨b, off, none⟩ → B = some ⟨b, off + p, none⟩) : Sll w (.slice B (L.length - p) (cap - p)) (L.drop p) := by
  obtain ⟨vs, h1, h2, h3⟩ := h
  rw [← h2] at h1 hB ⊢
  refine ⟨vs.drop p, h1.drop (by omega) B (fun a b off e => by rw [hB a b off e]; simp [svE]), by rw [List.length_drop, List.length_drop, h2], fun i x l hx hl => ?_⟩
  rw [List.getElem?_drop] at hx hl
  exact h3 _ x l hx hl

set_option maxHeartbeats 2000000 in
set_option maxRecDepth 100000 in
theorem lawComposeFolds_any (n : Int) (v : Value) (L : List (List Pc)) (q : Int) (w : World) (_hn : -9223372036854775808 ≤ n) (_hn' : n ≤ 9223372036854775807) (h : Sll w v L) (hq : ∀ l ∈ L, (∀ p ∈ l, p.wf) ∧ l.length * 32 ≤ 140737488355328 ∧ ∀ p ∈ l, p.t.length ≤ 140737488355328) (_hq : -9223372036854775808 ≤ q) (_hq' : q ≤ 9223372036854775807) :
    Calls Try.prog 9 #[.int .i64 n, v, .int .i64 q] w fun e w' => e = .returned (.bool true) ∧ Below w.heap.size w w' := by
  obtain ⟨V, cap, rfl, h2, h3⟩ := h.form
  have H := Lib.hid h
  unfold maxLen at h3
  by_cases g : 12 < L.length ∨ q < 0 ∨ (L.length : Int) < q
  · have d : (decide (12 < (L.length : Int)) = true) ∨ (decide (12 < (L.length : Int)) = false ∧ decide (q < 0) = true) ∨ (decide (12 < (L.length : Int)) = false ∧ decide (q < 0) = false ∧ decide ((L.length : Int) < q) = true) := by
      simp only [decide_eq_true_eq, decide_eq_false_iff_not]; omega
    clear g h hq
    rcases d with d1 | ⟨d1, d2⟩ | ⟨d1, d2, d3⟩
    all_goals (
      go_enter Try.func9, Try.ntmps9
      go_wp2_with fail
      refine (known5_any _).mono ?_
      rintro e w2 ⟨rfl, hb⟩
      have B2 := Lib.hid hb
      clear hb
      go_wp2
      go_ret
      exact ⟨rfl, B2.out⟩)
  have hl12 : L.length ≤ 12 := by omega
  obtain ⟨p, rfl⟩ := Int.eq_ofNat_of_zero_le (show 0 ≤ q by omega)
  have hp : p ≤ L.length := by omega
  have d1 : decide (12 < (L.length : Int)) = false := decide_eq_false (by omega)
  have d2 : decide ((p : Int) < 0) = false := decide_eq_false (by omega)
  have d3 : decide ((L.length : Int) < (p : Int)) = false := decide_eq_false (by omega)
  have hwf : ∀ l, l ∈ L → ∀ p, p ∈ l → p.wf := fun l hl => (hq l hl).1
  have c1 := fun x w h => all_any n x L w h hwf (by omega)
  have c2 := fun x w h => all_any n x (L.take p) w h (fun l hl => hwf l (List.mem_of_mem_take hl)) (by rw [List.length_take]; omega)
  have c3 := fun m x w h => all_any m x (L.drop p) w h (fun l hl => hwf l (List.mem_of_mem_drop hl)) (by rw [List.length_drop]; omega)
  have hF := all_folds n (L.take p) (L.drop p)
  rw [List.take_append_drop] at hF
  have HT := Lib.hid (fun (w : World) (h : Sll w (.slice V L.length cap) L) => h.take hp)
  have HDr := Lib.hid (fun (w : World) (h : Sll w (.slice V L.length cap) L) => h.drop hp)
  by_cases h0 : allE n L = 0
  · obtain ⟨f1, f2, f3⟩ := hF h0
    have cL := fun x w h => lengths_any x (allR n (L.take p)) w h (wf_of_err f2)
    rw [lensV_fine f2] at cL
    rw [h0] at c1
    rw [f1] at c2
    have cC := fun x y w h k => compose_any x y (allR n (L.take p)) (allR (outL (allR n (L.take p))) (L.drop p)) w h k (wf_of_err f2) (wf_of_err (allR_ok _ _))
    generalize L.take p = L1 at *
    generalize L.drop p = L2 at *
    generalize allR n L1 = R1 at *
    generalize inL R1 = I1 at *
    generalize outL R1 = O1 at *
    generalize allR n L = R at *
    specialize c3 O1
    generalize allR O1 L2 = R2 at *
    have C1 := Lib.hid c1; have C2 := Lib.hid c2; have C3 := Lib.hid c3; have CL := Lib.hid cL; have CC := Lib.hid cC; have F3 := Lib.hid f3
    clear c1 c2 c3 cL cC hF h0 f1 f2 f3 h hq hwf g
    go_enter Try.func9, Try.ntmps9
    go_wp2_with fail
    refine (C1.out _ _ H.out).mono ?_
    rintro e w1 ⟨v1, rfl, ho, hb⟩
    have H_1 := Lib.hid (H.out.ext hb)
    have R_1 := Lib.hid (Sl.of_own ho)
    have B_1 := Lib.hid hb
    clear hb ho H
    go_wp2_with fail
    refine (C2.out _ _ (HT.out _ H_1.out)).mono ?_
    rintro e w2 ⟨v2, rfl, ho, hb⟩
    have H_2 := Lib.hid (H_1.out.ext hb)
    have R_2 := Lib.hid (R_1.out.ext hb)
    have A_2 := Lib.hid (Sl.of_own ho)
    have B_2 := Lib.hid (B_1.out.trans (hb.mono B_1.out.size))
    clear hb ho H_1 R_1 B_1
    go_wp2_with fail
    refine (CL.out _ _ A_2.out).mono ?_
    rintro e w3 ⟨rfl, hb⟩
    have H_3 := Lib.hid (H_2.out.ext hb)
    have R_3 := Lib.hid (R_2.out.ext hb)
    have A_3 := Lib.hid (A_2.out.ext hb)
    have B_3 := Lib.hid (B_2.out.trans (hb.mono B_2.out.size))
    clear hb H_2 R_2 A_2 B_2
    rcases F3.out with f5 | ⟨f5, f6, f7⟩
    · by_cases hcp : cap = p
      · rw [f5] at C3
        clear F3 f5
        have HDr := Lib.hid (fun w h => show Sll w (.slice V (L.length - p) 0) L2 from by have h9 := HDr.out w h V (fun a => absurd a (by omega)); rw [show cap - p = 0 by omega] at h9; exact h9)
        go_wp2_with fail
        refine (C3.out _ _ (HDr.out _ H_3.out)).mono ?_
        rintro e w4 ⟨v3, rfl, ho, hb⟩
        have H_4 := Lib.hid (H_3.out.ext hb)
        have R_4 := Lib.hid (R_3.out.ext hb)
        have A_4 := Lib.hid (A_3.out.ext hb)
        have Bb_4 := Lib.hid (Sl.of_own ho)
        have B_4 := Lib.hid (B_3.out.trans (hb.mono B_3.out.size))
        clear hb ho H_3 R_3 A_3 B_3
        go_wp2_with fail
        refine (known5_any _).mono ?_
        rintro e w5 ⟨rfl, hb⟩
        have H_5 := Lib.hid (H_4.out.ext hb)
        have R_5 := Lib.hid (R_4.out.ext hb)
        have A_5 := Lib.hid (A_4.out.ext hb)
        have Bb_5 := Lib.hid (Bb_4.out.ext hb)
        have B_5 := Lib.hid (B_4.out.trans (hb.mono B_4.out.size))
        clear hb H_4 R_4 A_4 Bb_4 B_4
        go_wp2
        go_ret
        exact ⟨rfl, B_5.out⟩
      · rw [f5] at C3
        clear F3 f5
        have HDr := Lib.hid (fun w h => HDr.out w h (Option.map (fun x => x.add p) V) (fun _ b off e => by rw [e]; first | rfl | simp [Addr.add]))
        go_wp2_with fail
        refine (C3.out _ _ (HDr.out _ H_3.out)).mono ?_
        rintro e w4 ⟨v3, rfl, ho, hb⟩
        have H_4 := Lib.hid (H_3.out.ext hb)
        have R_4 := Lib.hid (R_3.out.ext hb)
        have A_4 := Lib.hid (A_3.out.ext hb)
        have Bb_4 := Lib.hid (Sl.of_own ho)
        have B_4 := Lib.hid (B_3.out.trans (hb.mono B_3.out.size))
        clear hb ho H_3 R_3 A_3 B_3
        go_wp2_with fail
        refine (known5_any _).mono ?_
        rintro e w5 ⟨rfl, hb⟩
        have H_5 := Lib.hid (H_4.out.ext hb)
        have R_5 := Lib.hid (R_4.out.ext hb)
        have A_5 := Lib.hid (A_4.out.ext hb)
        have Bb_5 := Lib.hid (Bb_4.out.ext hb)
        have B_5 := Lib.hid (B_4.out.trans (hb.mono B_4.out.size))
        clear hb H_4 R_4 A_4 Bb_4 B_4
        go_wp2
        go_ret
        exact ⟨rfl, B_5.out⟩
    · by_cases hcp : cap = p
      · rw [f5] at C3
        rw [f6, f7] at CC
        clear F3 f5 f6 f7
        have HDr := Lib.hid (fun w h => show Sll w (.slice V (L.length - p) 0) L2 from by have h9 := HDr.out w h V (fun a => absurd a (by omega)); rw [show cap - p = 0 by omega] at h9; exact h9)
        go_wp2_with fail
        refine (C3.out _ _ (HDr.out _ H_3.out)).mono ?_
        rintro e w4 ⟨v3, rfl, ho, hb⟩
        have H_4 := Lib.hid (H_3.out.ext hb)
        have R_4 := Lib.hid (R_3.out.ext hb)
        have A_4 := Lib.hid (A_3.out.ext hb)
        have Bb_4 := Lib.hid (Sl.of_own ho)
        have B_4 := Lib.hid (B_3.out.trans (hb.mono B_3.out.size))
        clear hb ho H_3 R_3 A_3 B_3
        go_wp2_with fail
        refine (CC.out _ _ _ A_4.out Bb_4.out).mono ?_
        rintro e w5 ⟨v4, rfl, ho, hb⟩
        have H_5 := Lib.hid (H_4.out.ext hb)
        have R_5 := Lib.hid (R_4.out.ext hb)
        have A_5 := Lib.hid (A_4.out.ext hb)
        have Bb_5 := Lib.hid (Bb_4.out.ext hb)
        have D_5 := Lib.hid (Sl.of_own ho)
        have B_5 := Lib.hid (B_4.out.trans (hb.mono B_4.out.size))
        clear hb ho H_4 R_4 A_4 Bb_4 B_4
        have cS := fun x y w h k => same_any x y R R w h k
        rw [sameB_refl] at cS
        have CS := Lib.hid cS
        clear cS
        go_wp2_with fail
        refine (CS.out _ _ _ D_5.out R_5.out).mono ?_
        rintro e w6 ⟨rfl, hb⟩
        have H_6 := Lib.hid (H_5.out.ext hb)
        have R_6 := Lib.hid (R_5.out.ext hb)
        have A_6 := Lib.hid (A_5.out.ext hb)
        have Bb_6 := Lib.hid (Bb_5.out.ext hb)
        have D_6 := Lib.hid (D_5.out.ext hb)
        have B_6 := Lib.hid (B_5.out.trans (hb.mono B_5.out.size))
        clear hb H_5 R_5 A_5 Bb_5 D_5 B_5
        go_wp2_with fail
        refine (known5_any _).mono ?_
        rintro e w7 ⟨rfl, hb⟩
        have H_7 := Lib.hid (H_6.out.ext hb)
        have R_7 := Lib.hid (R_6.out.ext hb)
        have A_7 := Lib.hid (A_6.out.ext hb)
        have Bb_7 := Lib.hid (Bb_6.out.ext hb)
        have D_7 := Lib.hid (D_6.out.ext hb)
        have B_7 := Lib.hid (B_6.out.trans (hb.mono B_6.out.size))
        clear hb H_6 R_6 A_6 Bb_6 D_6 B_6
        go_wp2
        go_ret
        exact ⟨rfl, B_7.out⟩
      · rw [f5] at C3
        rw [f6, f7] at CC
        clear F3 f5 f6 f7
        have HDr := Lib.hid (fun w h => HDr.out w h (Option.map (fun x => x.add p) V) (fun _ b off e => by rw [e]; first | rfl | simp [Addr.add]))
        go_wp2_with fail
        refine (C3.out _ _ (HDr.out _ H_3.out)).mono ?_
        rintro e w4 ⟨v3, rfl, ho, hb⟩
        have H_4 := Lib.hid (H_3.out.ext hb)
        have R_4 := Lib.hid (R_3.out.ext hb)
        have A_4 := Lib.hid (A_3.out.ext hb)
        have Bb_4 := Lib.hid (Sl.of_own ho)
        have B_4 := Lib.hid (B_3.out.trans (hb.mono B_3.out.size))
        clear hb ho H_3 R_3 A_3 B_3
        go_wp2_with fail
        refine (CC.out _ _ _ A_4.out Bb_4.out).mono ?_
        rintro e w5 ⟨v4, rfl, ho, hb⟩
        have H_5 := Lib.hid (H_4.out.ext hb)
        have R_5 := Lib.hid (R_4.out.ext hb)
        have A_5 := Lib.hid (A_4.out.ext hb)
        have Bb_5 := Lib.hid (Bb_4.out.ext hb)
        have D_5 := Lib.hid (Sl.of_own ho)
        have B_5 := Lib.hid (B_4.out.trans (hb.mono B_4.out.size))
        clear hb ho H_4 R_4 A_4 Bb_4 B_4
        have cS := fun x y w h k => same_any x y R R w h k
        rw [sameB_refl] at cS
        have CS := Lib.hid cS
        clear cS
        go_wp2_with fail
        refine (CS.out _ _ _ D_5.out R_5.out).mono ?_
        rintro e w6 ⟨rfl, hb⟩
        have H_6 := Lib.hid (H_5.out.ext hb)
        have R_6 := Lib.hid (R_5.out.ext hb)
        have A_6 := Lib.hid (A_5.out.ext hb)
        have Bb_6 := Lib.hid (Bb_5.out.ext hb)
        have D_6 := Lib.hid (D_5.out.ext hb)
        have B_6 := Lib.hid (B_5.out.trans (hb.mono B_5.out.size))
        clear hb H_5 R_5 A_5 Bb_5 D_5 B_5
        go_wp2_with fail
        refine (known5_any _).mono ?_
        rintro e w7 ⟨rfl, hb⟩
        have H_7 := Lib.hid (H_6.out.ext hb)
        have R_7 := Lib.hid (R_6.out.ext hb)
        have A_7 := Lib.hid (A_6.out.ext hb)
        have Bb_7 := Lib.hid (Bb_6.out.ext hb)
        have D_7 := Lib.hid (D_6.out.ext hb)
        have B_7 := Lib.hid (B_6.out.trans (hb.mono B_6.out.size))
        clear hb H_6 R_6 A_6 Bb_6 D_6 B_6
        go_wp2
        go_ret
        exact ⟨rfl, B_7.out⟩
  · have h0' : (allE n L != 0) = true := by simpa using h0
    generalize allE n L = E at *
    generalize allR n L = R at *
    have C1 := Lib.hid c1; have C2 := Lib.hid c2
    clear c1 c2 c3 hF h0 h hq hwf g
    go_enter Try.func9, Try.ntmps9
    go_wp2_with fail
    refine (C1.out _ _ H.out).mono ?_
    rintro e w1 ⟨v1, rfl, ho, hb⟩
    have H_1 := Lib.hid (H.out.ext hb)
    have B_1 := Lib.hid hb
    clear hb ho H
    go_wp2_with fail
    refine (C2.out _ _ (HT.out _ H_1.out)).mono ?_
    rintro e w2 ⟨v2, rfl, ho, hb⟩
    have H_2 := Lib.hid (H_1.out.ext hb)
    have B_2 := Lib.hid (B_1.out.trans (hb.mono B_1.out.size))
    clear hb ho H_1 B_1
    go_wp2_with fail
    refine (known5_any _).mono ?_
    rintro e w3 ⟨rfl, hb⟩
    have H_3 := Lib.hid (H_2.out.ext hb)
    have B_3 := Lib.hid (B_2.out.trans (hb.mono B_2.out.size))
    clear hb H_2 B_2
    go_wp2
    go_ret
    exact ⟨rfl, B_3.out⟩

end Go.Proofs.Ytdlbjfgpfjcpaaa
