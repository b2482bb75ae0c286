/- transform.pair: the normal forms of two deltas for one string. Condition: the pieces read as values of their types. -/
import Derived.Test.YtdlbjfgpfjcpaaaCompose
import Derived.Test.YtdlbjfgpfjcpaaaPlainT1
namespace Go.Proofs.Ytdlbjfgpfjcpaaa
open Go.RowKit

/-- what pair returns -/
def PairR (w : World) (a b : List Pc) (v' u' : Value) (w' : World) : Prop :=
  if prE a b = 0 then ∃ m, w.heap.size ≤ m ∧ w'.ownsRow w.heap.size 31 3 v' (formS a).length (pcE.flat (formS a)) ∧ w'.ownsRow m 31 3 u' (formS b).length (pcE.flat (formS b)) ∧ ∀ g, v'.ownBlock = some g → g < m
  else v' = .slice none 0 0 ∧ u' = .slice none 0 0

set_option maxHeartbeats 2000000 in
set_option maxRecDepth 100000 in
theorem pair7_any (v u : Value) (a b : List Pc) (w : World) (h : Sl pcE w v a) (k : Sl pcE w u b) (ha : ∀ p, p ∈ a → p.wf) (hb : ∀ p, p ∈ b → p.wf) :
    Calls Try.prog 85 #[v, u] w fun e w' => ∃ v' u', e = .returned (.tuple #[v', u', .int .i64 (prE a b)]) ∧ PairR w a b v' u' w' ∧ Below w.heap.size w w' := by
  unfold PairR
  have cA := fun w h => lengths_any v a w h ha
  have cB := fun w h => lengths_any u b w h hb
  have H := Lib.hid h; have K := Lib.hid k
  by_cases h0 : errL a = 0
  · rw [lensV_fine h0] at cA
    by_cases h1 : errL b = 0
    · rw [lensV_fine h1] at cB
      by_cases h2 : inL a = inL b
      · have hE : prE a b = 0 := by simp [prE, h0, h1, h2]
        simp only [hE, if_true]
        have cN := fun w h => normalize_any v a w h ha
        have cM := fun w h => normalize_any u b w h hb
        rw [h0, show normS a = formS a by rw [normS, if_pos h0]] at cN
        rw [h1, show normS b = formS b by rw [normS, if_pos h1]] at cM
        rw [h2] at cA
        generalize formS a = X at *
        generalize formS b = Y at *
        generalize inL b = I at *
        have CA := Lib.hid cA; have CB := Lib.hid cB; have CN := Lib.hid cN; have CM := Lib.hid cM
        clear cA cB cN cM hE h2 h0 h1 ha hb h k
        go_enter Try.func85, Try.ntmps85
        go_wp2_with fail
        refine (CA.out _ H.out).mono ?_
        rintro e w1 ⟨rfl, hb1⟩
        have H1 := Lib.hid (H.out.ext hb1); have K1 := Lib.hid (K.out.ext hb1); have B1 := Lib.hid hb1
        clear hb1 H K
        go_wp2_with fail
        refine (CB.out _ K1.out).mono ?_
        rintro e w2 ⟨rfl, hb2⟩
        have H2 := Lib.hid (H1.out.ext hb2); have K2 := Lib.hid (K1.out.ext hb2); have B2 := Lib.hid (B1.out.trans (hb2.mono B1.out.size))
        clear hb2 H1 K1 B1
        go_wp2_with fail
        refine (CN.out _ H2.out).mono ?_
        rintro e w3 ⟨v3, rfl, ho, hb3⟩
        have K3 := Lib.hid (K2.out.ext hb3); have B3 := Lib.hid (B2.out.trans (hb3.mono B2.out.size))
        have O3 := Lib.hid (own_base (own_zero ho) (fun g hg => Nat.le_trans B2.out.size (ho.lt g hg).1))
        have L3 := hb3.size
        clear hb3 ho H2 K2
        go_wp2_with fail
        refine (CM.out _ K3.out).mono ?_
        rintro e w4 ⟨u4, rfl, ho, hb4⟩
        have B4 := Lib.hid (B3.out.trans (hb4.mono B3.out.size))
        have O4 := Lib.hid (own_keepB O3.out (Fr.of_below (T := fun _ => False) hb4) (fun _ _ h => h.elim))
        have O5 := Lib.hid ho
        clear ho hb4
        go_wp2
        refine bodyPost_ret (v := .tuple #[v3, u4, .int .i64 0]) (by simp [results, Try.f85, go_sem]) rfl ?_
        exact ⟨v3, u4, rfl, ⟨w3.heap.size, B3.out.size, O4.out, O5.out, fun g hg => (O3.out.lt g hg).2⟩, B4.out⟩
      · have hE : prE a b = 21 := by simp [prE, h0, h1, h2]
        simp only [hE, show ((21 : Int) = 0) = False from eq_false (by omega), if_false]
        have hne : (inL a == inL b) = false := by rw [beq_eq_false_iff_ne]; exact h2
        generalize inL b = I at *
        generalize inL a = J at *
        have CA := Lib.hid cA; have CB := Lib.hid cB
        clear cA cB hE h2 h0 h1 ha hb h k
        go_enter Try.func85, Try.ntmps85
        go_wp2_with fail
        refine (CA.out _ H.out).mono ?_
        rintro e w1 ⟨rfl, hb1⟩
        have K1 := Lib.hid (K.out.ext hb1); have B1 := Lib.hid hb1
        clear hb1 H K
        go_wp2_with fail
        refine (CB.out _ K1.out).mono ?_
        rintro e w2 ⟨rfl, hb2⟩
        have B2 := Lib.hid (B1.out.trans (hb2.mono B1.out.size))
        clear hb2 K1 B1
        go_wp2
        exact bodyPost_ret (v := .tuple #[.slice none 0 0, .slice none 0 0, .int .i64 21]) (by simp [results, Try.f85, go_sem]) rfl ⟨_, _, rfl, ⟨rfl, rfl⟩, B2.out⟩
    · rw [lensV_bad h1] at cB
      have hE : prE a b = errL b := by simp [prE, h0, h1]
      simp only [hE, eq_false h1, if_false]
      have hne : (errL b == 0) = false := by rw [beq_eq_false_iff_ne]; exact h1
      generalize errL b = E at *
      have CA := Lib.hid cA; have CB := Lib.hid cB
      clear cA cB hE h0 h1 ha hb h k
      go_enter Try.func85, Try.ntmps85
      go_wp2_with fail
      refine (CA.out _ H.out).mono ?_
      rintro e w1 ⟨rfl, hb1⟩
      have K1 := Lib.hid (K.out.ext hb1); have B1 := Lib.hid hb1
      clear hb1 H K
      go_wp2_with fail
      refine (CB.out _ K1.out).mono ?_
      rintro e w2 ⟨rfl, hb2⟩
      have B2 := Lib.hid (B1.out.trans (hb2.mono B1.out.size))
      clear hb2 K1 B1
      go_wp2
      exact bodyPost_ret (v := .tuple #[.slice none 0 0, .slice none 0 0, .int .i64 E]) (by simp [results, Try.f85, go_sem]) rfl ⟨_, _, rfl, ⟨rfl, rfl⟩, B2.out⟩
  · rw [lensV_bad h0] at cA
    have hE : prE a b = errL a := by simp [prE, h0]
    simp only [hE, eq_false h0, if_false]
    have hne : (errL a == 0) = false := by rw [beq_eq_false_iff_ne]; exact h0
    generalize errL a = E at *
    have CA := Lib.hid cA
    clear cA cB hE h0 ha hb h k
    go_enter Try.func85, Try.ntmps85
    go_wp2_with fail
    refine (CA.out _ H.out).mono ?_
    rintro e w1 ⟨rfl, hb1⟩
    have B1 := Lib.hid hb1
    clear hb1 H K
    go_wp2
    exact bodyPost_ret (v := .tuple #[.slice none 0 0, .slice none 0 0, .int .i64 E]) (by simp [results, Try.f85, go_sem]) rfl ⟨_, _, rfl, ⟨rfl, rfl⟩, B1.out⟩

end Go.Proofs.Ytdlbjfgpfjcpaaa
