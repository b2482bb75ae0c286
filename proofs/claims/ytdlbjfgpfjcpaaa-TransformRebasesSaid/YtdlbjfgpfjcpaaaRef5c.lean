/- quartoref05.Fits and Compose: what they return. Condition: the pieces read as values of their types; Compose: the second delta covers at most 49000 bytes. -/
import Derived.Test.YtdlbjfgpfjcpaaaBoth5
namespace Go.Proofs.Ytdlbjfgpfjcpaaa
open Go.RowKit

set_option maxHeartbeats 2000000 in
set_option maxRecDepth 100000 in
theorem refFits5_any (v u : Value) (a b : List Pc) (w : World) (h : Sl pcE w v a) (k : Sl pcE w u b) (ha : ∀ p, p ∈ a → p.wf) (hb : ∀ p, p ∈ b → p.wf) :
    Calls Try.prog 27 #[v, u] w fun e w' => e = .returned (.bool (fitB a b)) ∧ Below w.heap.size w w' := by
  have cA := fun w h => refLengths_any v a w h ha
  have cB := fun w h => refLengths_any u b w h hb
  have H := Lib.hid h; have K := Lib.hid k
  have key : ∀ (B : Bool) (i j m n x y : Int), fitB a b = B → lensV a = .tuple #[.int .i64 i, .int .i64 j, .int .i64 x] → lensV b = .tuple #[.int .i64 m, .int .i64 n, .int .i64 y] →
      ((x == 0) = true ∧ (y == 0) = true ∧ (j == m) = B ∨ B = false ∧ (x == 0) = false ∨ B = false ∧ (x == 0) = true ∧ (y == 0) = false) →
      Calls Try.prog 27 #[v, u] w fun e w' => e = .returned (.bool (fitB a b)) ∧ Below w.heap.size w w' := by
    intro B i j m n x y e1 e2 e3 hh
    rw [e1]
    rw [e2] at cA
    rw [e3] at cB
    have CA := Lib.hid cA; have CB := Lib.hid cB
    clear cA cB e1 e2 e3 ha hb h k
    rcases hh with ⟨x1, x2, x3⟩ | ⟨rfl, x1⟩ | ⟨rfl, x1, x2⟩
    all_goals (
      go_enter Try.func27, Try.ntmps27
      go_wp2_with fail
      refine (CA.out _ H.out).mono ?_
      rintro e w1 ⟨rfl, hb1⟩
      have K1 := Lib.hid (K.out.ext hb1); have B1 := Lib.hid hb1
      clear hb1 H K
      go_wp2_with fail
      refine (CB.out _ K1.out).mono ?_
      rintro e w2 ⟨rfl, hb1⟩
      have B2 := Lib.hid (B1.out.trans (hb1.mono B1.out.size))
      clear hb1 K1 B1
      go_wp2
      go_ret
      exact ⟨rfl, B2.out⟩)
  by_cases h0 : errL a = 0
  · by_cases h1 : errL b = 0
    · refine key (fitB a b) _ _ _ _ _ _ rfl (lensV_fine h0) (lensV_fine h1) (.inl ⟨rfl, rfl, ?_⟩)
      unfold fitB
      rw [h0, h1]
      by_cases h2 : outL a = inL b
      · simp [h2]
      · simp [h2]
    · exact key false _ _ _ _ _ _ (by simp [fitB, h1]) (lensV_fine h0) (lensV_bad h1) (.inr (.inr ⟨rfl, rfl, by simpa using h1⟩))
  · by_cases h1 : errL b = 0
    · exact key false _ _ _ _ _ _ (by simp [fitB, h0]) (lensV_bad h0) (lensV_fine h1) (.inr (.inl ⟨rfl, by simpa using h0⟩))
    · exact key false _ _ _ _ _ _ (by simp [fitB, h0]) (lensV_bad h0) (lensV_bad h1) (.inr (.inl ⟨rfl, by simpa using h0⟩))

set_option maxHeartbeats 4000000 in
set_option maxRecDepth 100000 in
theorem refCompose_any (v u : Value) (a b : List Pc) (w : World) (h : Sl pcE w v a) (k : Sl pcE w u b) (ha : ∀ p, p ∈ a → p.wf) (hb : ∀ p, p ∈ b → p.wf) (hl : errL b = 0 → outL b ≤ 49000) :
    Calls Try.prog 25 #[v, u] w fun e w' => ∃ v', e = .returned (.tuple #[v', .int .i64 (cmpE a b)]) ∧ w'.ownsRow w.heap.size 31 3 v' (cmpR a b).length (pcE.flat (cmpR a b)) ∧ Below w.heap.size w w' := by
  have cA : ∀ w, Sl pcE w v a → Calls Try.prog 63 #[v] w fun e w' => e = .returned (.int .i64 (errL a)) ∧ Below w.heap.size w w' := fun w h => refCheck_any v a w h ha
  have cB : ∀ w, Sl pcE w u b → Calls Try.prog 63 #[u] w fun e w' => e = .returned (.int .i64 (errL b)) ∧ Below w.heap.size w w' := fun w h => refCheck_any u b w h hb
  have cF := fun w h k => refFits5_any v u a b w h k ha hb
  have H := Lib.hid h; have K := Lib.hid k
  by_cases h0 : errL a = 0
  · by_cases h1 : errL b = 0
    · by_cases h2 : outL a = inL b
      · have cJ := fun w h k => both5_any v u a b w h k h0 h1 h2 (hl h1)
        have hF : fitB a b = true := by simp [fitB, h0, h1, h2]
        rw [hF] at cF
        rw [h0] at cA
        rw [h1] at cB
        by_cases h3 : (formS (cmpS a b)).length ≤ 4096
        · have eE : cmpE a b = 0 := by unfold cmpE; rw [if_pos h0, if_pos h1, if_pos h2, if_pos h3]
          have eR : cmpR a b = formS (cmpS a b) := by unfold cmpR; rw [if_pos eE]
          rw [eE, eR]
          generalize formS (cmpS a b) = R at *
          have d1 : decide (4096 < (R.length : Int)) = false := decide_eq_false (by omega)
          have CA := Lib.hid cA; have CB := Lib.hid cB; have CF := Lib.hid cF; have CJ := Lib.hid cJ
          clear cA cB cF cJ eE eR h2 h0 h1 ha hb h k hl hF
          go_enter Try.func25, Try.ntmps25
          go_wp2_with fail
          refine (CA.out _ H.out).mono ?_
          rintro e w1 ⟨rfl, hb1⟩
          have H1 := Lib.hid (H.out.ext hb1); have K1 := Lib.hid (K.out.ext hb1); have B1 := Lib.hid hb1
          clear hb1 H K
          go_wp2_with fail
          refine (CB.out _ K1.out).mono ?_
          rintro e w2 ⟨rfl, hb1⟩
          have H2 := Lib.hid (H1.out.ext hb1); have K2 := Lib.hid (K1.out.ext hb1); have B2 := Lib.hid (B1.out.trans (hb1.mono B1.out.size))
          clear hb1 K1 B1 H1
          go_wp2_with fail
          refine (CF.out _ H2.out K2.out).mono ?_
          rintro e w3 ⟨rfl, hb1⟩
          have H3 := Lib.hid (H2.out.ext hb1); have K3 := Lib.hid (K2.out.ext hb1); have B3 := Lib.hid (B2.out.trans (hb1.mono B2.out.size))
          clear hb1 K2 B2 H2
          go_wp2_with fail
          refine (CJ.out _ H3.out K3.out).mono ?_
          rintro e w4 ⟨v4, rfl, ho, hb1⟩
          have O4 := Lib.hid (own_base (own_zero ho) (fun g hg => Nat.le_trans B3.out.size (ho.lt g hg).1)); have B4 := Lib.hid (B3.out.trans (hb1.mono B3.out.size))
          obtain ⟨A4, c4, rfl⟩ := own_form _ (own_zero ho)
          clear hb1 ho B3
          go_wp2
          go_ret2
          exact ⟨_, rfl, O4.out, B4.out⟩
        · have eE : cmpE a b = 5 := by unfold cmpE; rw [if_pos h0, if_pos h1, if_pos h2, if_neg h3]
          have eR : cmpR a b = [] := by unfold cmpR; rw [eE]; rfl
          rw [eE, eR]
          generalize formS (cmpS a b) = R at *
          have d1 : decide (4096 < (R.length : Int)) = true := decide_eq_true (by omega)
          have CA := Lib.hid cA; have CB := Lib.hid cB; have CF := Lib.hid cF; have CJ := Lib.hid cJ
          clear cA cB cF cJ eE eR h2 h0 h1 ha hb h k hl hF
          go_enter Try.func25, Try.ntmps25
          go_wp2_with fail
          refine (CA.out _ H.out).mono ?_
          rintro e w1 ⟨rfl, hb1⟩
          have H1 := Lib.hid (H.out.ext hb1); have K1 := Lib.hid (K.out.ext hb1); have B1 := Lib.hid hb1
          clear hb1 H K
          go_wp2_with fail
          refine (CB.out _ K1.out).mono ?_
          rintro e w2 ⟨rfl, hb1⟩
          have H2 := Lib.hid (H1.out.ext hb1); have K2 := Lib.hid (K1.out.ext hb1); have B2 := Lib.hid (B1.out.trans (hb1.mono B1.out.size))
          clear hb1 K1 B1 H1
          go_wp2_with fail
          refine (CF.out _ H2.out K2.out).mono ?_
          rintro e w3 ⟨rfl, hb1⟩
          have H3 := Lib.hid (H2.out.ext hb1); have K3 := Lib.hid (K2.out.ext hb1); have B3 := Lib.hid (B2.out.trans (hb1.mono B2.out.size))
          clear hb1 K2 B2 H2
          go_wp2_with fail
          refine (CJ.out _ H3.out K3.out).mono ?_
          rintro e w4 ⟨v4, rfl, ho, hb1⟩
          have B4 := Lib.hid (B3.out.trans (hb1.mono B3.out.size))
          obtain ⟨A4, c4, rfl⟩ := own_form _ (own_zero ho)
          clear hb1 ho B3
          go_wp2
          go_ret2
          exact ⟨_, rfl, World.ownsRow_nil _ _ _ _, B4.out⟩
      · have hF : fitB a b = false := by simp [fitB, h2]
        rw [hF] at cF
        rw [h0] at cA
        rw [h1] at cB
        have eE : cmpE a b = 21 := by unfold cmpE; rw [if_pos h0, if_pos h1, if_neg h2]
        have eR : cmpR a b = [] := by unfold cmpR; rw [eE]; rfl
        rw [eE, eR]
        have CA := Lib.hid cA; have CB := Lib.hid cB; have CF := Lib.hid cF
        clear cA cB cF eE eR h2 h0 h1 ha hb h k hl hF
        go_enter Try.func25, Try.ntmps25
        go_wp2_with fail
        refine (CA.out _ H.out).mono ?_
        rintro e w1 ⟨rfl, hb1⟩
        have H1 := Lib.hid (H.out.ext hb1); have K1 := Lib.hid (K.out.ext hb1); have B1 := Lib.hid hb1
        clear hb1 H K
        go_wp2_with fail
        refine (CB.out _ K1.out).mono ?_
        rintro e w2 ⟨rfl, hb1⟩
        have H2 := Lib.hid (H1.out.ext hb1); have K2 := Lib.hid (K1.out.ext hb1); have B2 := Lib.hid (B1.out.trans (hb1.mono B1.out.size))
        clear hb1 K1 B1 H1
        go_wp2_with fail
        refine (CF.out _ H2.out K2.out).mono ?_
        rintro e w3 ⟨rfl, hb1⟩
        have B3 := Lib.hid (B2.out.trans (hb1.mono B2.out.size))
        clear hb1 K2 B2 H2
        go_wp2
        go_ret2
        exact ⟨_, rfl, World.ownsRow_nil _ _ _ _, B3.out⟩
    · have eE : cmpE a b = errL b := by unfold cmpE; rw [if_pos h0, if_neg h1]
      have eR : cmpR a b = [] := by unfold cmpR; rw [eE, if_neg h1]
      rw [eE, eR]
      rw [h0] at cA
      have h1' : (errL b != 0) = true := by simpa using h1
      have h1'' : (errL b == 0) = false := by simpa using h1
      generalize errL b = F at *
      have CA := Lib.hid cA; have CB := Lib.hid cB
      clear cA cB cF eE eR h0 h1 ha hb h k hl
      go_enter Try.func25, Try.ntmps25
      go_wp2_with fail
      refine (CA.out _ H.out).mono ?_
      rintro e w1 ⟨rfl, hb1⟩
      have K1 := Lib.hid (K.out.ext hb1); have B1 := Lib.hid hb1
      clear hb1 H K
      go_wp2_with fail
      refine (CB.out _ K1.out).mono ?_
      rintro e w2 ⟨rfl, hb1⟩
      have B2 := Lib.hid (B1.out.trans (hb1.mono B1.out.size))
      clear hb1 K1 B1
      go_wp2
      go_ret2
      exact ⟨_, rfl, World.ownsRow_nil _ _ _ _, B2.out⟩
  · have eE : cmpE a b = errL a := by unfold cmpE; rw [if_neg h0]
    have eR : cmpR a b = [] := by unfold cmpR; rw [eE, if_neg h0]
    rw [eE, eR]
    have h1' : (errL a != 0) = true := by simpa using h0
    have h1'' : (errL a == 0) = false := by simpa using h0
    generalize errL a = F at *
    have CA := Lib.hid cA
    clear cA cB cF eE eR h0 ha hb h k K hl
    go_enter Try.func25, Try.ntmps25
    go_wp2_with fail
    refine (CA.out _ H.out).mono ?_
    rintro e w1 ⟨rfl, hb1⟩
    have B2 := Lib.hid hb1
    clear hb1
    go_wp2
    go_ret2
    exact ⟨_, rfl, World.ownsRow_nil _ _ _ _, B2.out⟩

end Go.Proofs.Ytdlbjfgpfjcpaaa
