/- delta.Identity, compose.Compose, Fits: what they return. Condition: the pieces read as values of their types. -/
import Derived.Test.YtibmnkdeepmabaaJoined
namespace Go.Proofs.Ytibmnkdeepmabaa
open Go.RowKit

theorem lensV_fine {l : List Pc} (h : errL l = 0) : lensV l = .tuple #[.int .i64 (inL l), .int .i64 (outL l), .int .i64 0] := by
  unfold lensV; rw [lens_of_err h]
theorem lensV_bad {l : List Pc} (h : errL l ≠ 0) : lensV l = .tuple #[.int .i64 0, .int .i64 0, .int .i64 (errL l)] := by
  unfold lensV; rw [lens_err h]; rfl
theorem len32c {l : List Pc} (h : errL l = 0) : l.length * 32 ≤ 140737488355328 := by
  have := ((errL_iff l).1 h).1
  omega

set_option maxHeartbeats 2000000 in
set_option maxRecDepth 100000 in
theorem compose_any (v u : Value) (a b : List Pc) (w : World) (h : Sl pcE w v a) (k : Sl pcE w u b) (ha : ∀ p, p ∈ a → p.wf) (hb : ∀ p, p ∈ b → p.wf) :
    Calls Try.prog 30 #[v, u] w fun e w' => ∃ v', e = .returned (.tuple #[v', .int .i64 (cmpE a b)]) ∧ w'.ownsRow w.heap.size 53 3 v' (cmpR a b).length (pcE.flat (cmpR a b)) ∧ Below w.heap.size w w' := by
  have cA := fun w h => lengths_any v a w h ha
  have cB := fun w h => lengths_any u b w h hb
  have H := Lib.hid h; have K := Lib.hid k
  by_cases h0 : errL a = 0
  · by_cases h1 : errL b = 0
    · rw [lensV_fine h0] at cA
      rw [lensV_fine h1] at cB
      by_cases h2 : outL a = inL b
      · have sm : ∀ {l : List Pc}, errL l = 0 → SmP l := fun hl p hp => by
          have h1 := ((errL_iff _).1 hl).2.1 p hp
          have h2 := (formPre_of_lens hl).2 p hp
          exact ⟨h1, h2.2.1, h2.2.2⟩
        have la := ((errL_iff a).1 h0).1
        have lb := ((errL_iff b).1 h1).1
        have va := ((errL_iff a).1 h0).2.1
        have vb := ((errL_iff b).1 h1).2.1
        obtain ⟨c1, c2, c3, c4, c5⟩ := cmpS_ok va vb h2
        have hsm : SmP (cmpS a b) := by
          intro p hp
          refine ⟨c1 p hp, ?_, ?_⟩
          · have hin : ∀ (l : List Pc), Val l → p ∈ l → p.n ≤ inL l := by
              intro l
              induction l with
              | nil => intro _ h; cases h
              | cons q l ih =>
                intro hv hm
                obtain ⟨v1, v2⟩ := Val.cons.1 hv
                have := Val.n v1
                have := Val.inL v2
                simp only [inL]
                rcases List.mem_cons.1 hm with rfl | hm
                · omega
                · have := ih v2 hm; omega
            have := hin _ c1 hp
            have := ((errL_iff a).1 h0).2.2.1
            omega
          · have hout : ∀ (l : List Pc), Val l → p ∈ l → (p.t.length : Int) ≤ outL l := by
              intro l
              induction l with
              | nil => intro _ h; cases h
              | cons q l ih =>
                intro hv hm
                obtain ⟨v1, v2⟩ := Val.cons.1 hv
                have := Val.out v1
                have := Val.outL v2
                simp only [outL]
                rcases List.mem_cons.1 hm with rfl | hm
                · rcases Pc.valid_cases v1 with ⟨x, y, z⟩ | ⟨x, y, z⟩ | ⟨x, y, z⟩
                  · rw [z]; simp; omega
                  · rw [z]; simp; omega
                  · have : p.out = p.t.length := by simp [Pc.out, x]
                    omega
                · have := ih v2 hm; omega
            have := hout _ c1 hp
            have := ((errL_iff b).1 h1).2.2.2
            omega
        have eE : joinE ((cmpS a b).map fun p => [p]) = cmpE a b := by
          unfold joinE cmpE
          rw [singles, if_pos h0, if_pos h1, if_pos h2]
          by_cases hl : (formS (cmpS a b)).length ≤ 4096
          · rw [if_pos hl, if_pos ((cmp_err h0 h1 h2).2 hl)]
          · rw [if_neg hl, if_neg (fun hh => hl ((cmp_err h0 h1 h2).1 hh))]
        have eS : joinS ((cmpS a b).map fun p => [p]) = cmpR a b := by
          unfold joinS cmpR
          rw [eE, singles]
        have cC := fun w h k => composed_any v u a b w h k (sm h0) (sm h1) la lb
        have cJ := fun x w h => joined_any x (cmpS a b) w h hsm (by omega)
        rw [eE, eS] at cJ
        generalize cmpE a b = E at *
        generalize cmpR a b = R at *
        generalize cmpS a b = S at *
        rw [h2] at cA
        generalize inL b = I at *
        have CA := Lib.hid cA; have CB := Lib.hid cB; have CC := Lib.hid cC; have CJ := Lib.hid cJ
        clear cA cB cC cJ eE eS hsm c1 c2 c3 c4 c5 va vb la lb sm h2 h0 h1 ha hb h k
        go_enter Try.func30, Try.ntmps30
        go_wp2_with fail
        refine (CA.out _ H.out).mono ?_
        rintro e w1 ⟨rfl, hb1⟩
        have H1 := Lib.hid (H.out.ext hb1); have K1 := Lib.hid (K.out.ext hb1); have B1 := Lib.hid hb1
        clear hb1 H K
        go_wp2_with fail
        refine (CB.out _ K1.out).mono ?_
        rintro e w2 ⟨rfl, hb1⟩
        have H2 := Lib.hid (H1.out.ext hb1); have K2 := Lib.hid (K1.out.ext hb1); have B2 := Lib.hid (B1.out.trans (hb1.mono B1.out.size))
        clear hb1 H1 K1 B1
        go_wp2_with fail
        refine (CC.out _ H2.out K2.out).mono ?_
        rintro e w3 ⟨v3, rfl, ho, hb1⟩
        have S3 := Lib.hid (Sl.of_own ho); have B3 := Lib.hid (B2.out.trans (hb1.mono B2.out.size))
        clear hb1 ho H2 K2 B2
        go_wp2_with fail
        refine (CJ.out _ _ S3.out).mono ?_
        rintro e w4 ⟨v4, rfl, ho, hb1⟩
        have O4 := Lib.hid (own_base (own_zero ho) (fun g hg => Nat.le_trans B3.out.size (ho.lt g hg).1)); have B4 := Lib.hid (B3.out.trans (hb1.mono B3.out.size))
        clear hb1 ho B3
        go_wp2
        go_ret2
        exact ⟨v4, rfl, O4.out, B4.out⟩
      · have eE : cmpE a b = 21 := by unfold cmpE; rw [if_pos h0, if_pos h1, if_neg h2]
        have eR : cmpR a b = [] := by unfold cmpR; rw [eE]; rfl
        rw [eE, eR]
        have h2' : (outL a != inL b) = true := by simpa using h2
        generalize outL a = P at *
        generalize inL b = Q at *
        have CA := Lib.hid cA; have CB := Lib.hid cB
        clear cA cB eE eR h2 h0 h1 ha hb h k
        go_enter Try.func30, Try.ntmps30
        go_wp2_with fail
        refine (CA.out _ H.out).mono ?_
        rintro e w1 ⟨rfl, hb1⟩
        have K1 := Lib.hid (K.out.ext hb1); have B1 := Lib.hid hb1
        clear hb1 H K
        go_wp2_with fail
        refine (CB.out _ K1.out).mono ?_
        rintro e w2 ⟨rfl, hb1⟩
        have B2 := Lib.hid (B1.out.trans (hb1.mono B1.out.size))
        clear hb1 K1 B1
        go_wp2
        go_ret2
        exact ⟨_, rfl, World.ownsRow_nil _ _ _ _, B2.out⟩
    · have eE : cmpE a b = errL b := by unfold cmpE; rw [if_pos h0, if_neg h1]
      have eR : cmpR a b = [] := by unfold cmpR; rw [eE, if_neg h1]
      rw [eE, eR]
      rw [lensV_fine h0] at cA
      rw [lensV_bad h1] at cB
      have h1' : (errL b != 0) = true := by simpa using h1
      generalize errL b = F at *
      have CA := Lib.hid cA; have CB := Lib.hid cB
      clear cA cB eE eR h0 h1 ha hb h k
      go_enter Try.func30, Try.ntmps30
      go_wp2_with fail
      refine (CA.out _ H.out).mono ?_
      rintro e w1 ⟨rfl, hb1⟩
      have K1 := Lib.hid (K.out.ext hb1); have B1 := Lib.hid hb1
      clear hb1 H K
      go_wp2_with fail
      refine (CB.out _ K1.out).mono ?_
      rintro e w2 ⟨rfl, hb1⟩
      have B2 := Lib.hid (B1.out.trans (hb1.mono B1.out.size))
      clear hb1 K1 B1
      go_wp2
      go_ret2
      exact ⟨_, rfl, World.ownsRow_nil _ _ _ _, B2.out⟩
  · have eE : cmpE a b = errL a := by unfold cmpE; rw [if_neg h0]
    have eR : cmpR a b = [] := by unfold cmpR; rw [eE, if_neg h0]
    rw [eE, eR]
    rw [lensV_bad h0] at cA
    have h1' : (errL a != 0) = true := by simpa using h0
    generalize errL a = F at *
    have CA := Lib.hid cA
    clear cA cB eE eR h0 ha hb h k K
    go_enter Try.func30, Try.ntmps30
    go_wp2_with fail
    refine (CA.out _ H.out).mono ?_
    rintro e w1 ⟨rfl, hb1⟩
    have B2 := Lib.hid hb1
    clear hb1
    go_wp2
    go_ret2
    exact ⟨_, rfl, World.ownsRow_nil _ _ _ _, B2.out⟩

def fitB (a b : List Pc) : Bool := decide (errL a = 0 ∧ errL b = 0 ∧ outL a = inL b)
end Go.Proofs.Ytibmnkdeepmabaa
