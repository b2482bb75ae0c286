/- transform.Pair, Merge: both transformed deltas, and what does both. Condition: the pieces read as values of their types. -/
import Derived.Test.YtdlbjfgpfjcpaaaTrans
import Derived.Test.YtdlbjfgpfjcpaaaCompose
namespace Go.Proofs.Ytdlbjfgpfjcpaaa
open Go.RowKit

def tpE (a b : List Pc) : Int := if trE true a b = 0 then trE false b a else trE true a b
def tpA (a b : List Pc) : List Pc := if tpE a b = 0 then trR false b a else []
def tpB (a b : List Pc) : List Pc := if tpE a b = 0 then trR true a b else []
theorem wf_err {l : List Pc} (h : errL l = 0) : ∀ p, p ∈ l → p.wf := fun p hp => by
  obtain ⟨v, s1, s2⟩ := smp_of h p hp
  have := Val.n v
  refine ⟨?_, ?_, by omega, by omega, by omega⟩
  · rcases Pc.valid_cases v with ⟨x, y, z⟩ | ⟨x, y, z⟩ | ⟨x, y, z⟩ <;> omega
  · rcases Pc.valid_cases v with ⟨x, y, z⟩ | ⟨x, y, z⟩ | ⟨x, y, z⟩ <;> omega
theorem wf_tr (f : Bool) (a b : List Pc) : ∀ p, p ∈ trR f a b → p.wf := by
  by_cases h : trE f a b = 0
  · exact wf_err (trR_ok h).2.1
  · rw [trR_none h]; exact fun p hp => by cases hp

set_option maxHeartbeats 2000000 in
set_option maxRecDepth 100000 in
theorem tpair_any (v u : Value) (a b : List Pc) (w : World) (h : Sl pcE w v a) (k : Sl pcE w u b) (ha : ∀ p, p ∈ a → p.wf) (hb : ∀ p, p ∈ b → p.wf) :
    Calls Try.prog 53 #[v, u] w fun e w' => ∃ v' u', e = .returned (.tuple #[v', u', .int .i64 (tpE a b)]) ∧ w'.ownsRow w.heap.size 31 3 v' (tpA a b).length (pcE.flat (tpA a b)) ∧ w'.ownsRow w.heap.size 31 3 u' (tpB a b).length (pcE.flat (tpB a b)) ∧ Below w.heap.size w w' := by
  have cA := fun w h k => transform_any v u a b true w h k ha hb
  have cB := fun w h k => transform_any u v b a false w k h hb ha
  have H := Lib.hid h; have K := Lib.hid k
  unfold tpA tpB
  by_cases h0 : trE true a b = 0
  · have e : tpE a b = trE false b a := by rw [tpE, if_pos h0]
    rw [e]
    rw [h0] at cA
    by_cases h1 : trE false b a = 0
    · simp only [h1, if_true]
      rw [h1] at cB
      generalize trR true a b = X at *
      generalize trR false b a = Y at *
      have CA := Lib.hid cA; have CB := Lib.hid cB
      clear cA cB h k ha hb h0 h1 e
      go_enter Try.func53, Try.ntmps53
      go_wp2_with fail
      refine (CA.out _ H.out K.out).mono ?_
      rintro e w1 ⟨v1, rfl, ho, hb1⟩
      have H1 := Lib.hid (H.out.ext hb1); have K1 := Lib.hid (K.out.ext hb1); have B1 := Lib.hid hb1; have O1 := Lib.hid ho
      clear hb1 ho H K
      go_wp2_with fail
      refine (CB.out _ H1.out K1.out).mono ?_
      rintro e w2 ⟨v2, rfl, ho, hb2⟩
      have B2 := Lib.hid (B1.out.trans (hb2.mono B1.out.size))
      have O2 := Lib.hid (own_base (own_zero ho) (fun g hg => Nat.le_trans B1.out.size (ho.lt g hg).1))
      have O3 := Lib.hid (own_keepB O1.out (Fr.of_below (T := fun _ => False) hb2) (fun _ _ h => h.elim))
      clear ho hb2
      go_wp2
      exact bodyPost_ret (v := .tuple #[v2, v1, .int .i64 0]) (by simp [results, Try.f53, go_sem]) rfl ⟨v2, v1, rfl, O2.out, O3.out, B2.out⟩
    · simp only [eq_false h1, if_false]
      have hne : (trE false b a == 0) = false := by rw [beq_eq_false_iff_ne]; exact h1
      generalize trR true a b = X at *
      generalize trR false b a = Y at *
      generalize trE false b a = E at *
      have CA := Lib.hid cA; have CB := Lib.hid cB
      clear cA cB h k ha hb h0 h1 e
      go_enter Try.func53, Try.ntmps53
      go_wp2_with fail
      refine (CA.out _ H.out K.out).mono ?_
      rintro e w1 ⟨v1, rfl, ho, hb1⟩
      have H1 := Lib.hid (H.out.ext hb1); have K1 := Lib.hid (K.out.ext hb1); have B1 := Lib.hid hb1
      clear hb1 ho H K
      go_wp2_with fail
      refine (CB.out _ H1.out K1.out).mono ?_
      rintro e w2 ⟨v2, rfl, ho, hb2⟩
      have B2 := Lib.hid (B1.out.trans (hb2.mono B1.out.size))
      clear ho hb2
      go_wp2
      exact bodyPost_ret (v := .tuple #[.slice none 0 0, .slice none 0 0, .int .i64 E]) (by simp [results, Try.f53, go_sem]) rfl ⟨_, _, rfl, World.ownsRow_nil _ _ _ _, World.ownsRow_nil _ _ _ _, B2.out⟩
  · have e : tpE a b = trE true a b := by rw [tpE, if_neg h0]
    rw [e]
    simp only [eq_false h0, if_false]
    have hne : (trE true a b == 0) = false := by rw [beq_eq_false_iff_ne]; exact h0
    generalize trR true a b = X at *
    generalize trE true a b = E at *
    have CA := Lib.hid cA
    clear cA cB h k ha hb h0 e
    go_enter Try.func53, Try.ntmps53
    go_wp2_with fail
    refine (CA.out _ H.out K.out).mono ?_
    rintro e w1 ⟨v1, rfl, ho, hb1⟩
    have B1 := Lib.hid hb1
    clear hb1 ho H K
    go_wp2
    exact bodyPost_ret (v := .tuple #[.slice none 0 0, .slice none 0 0, .int .i64 E]) (by simp [results, Try.f53, go_sem]) rfl ⟨_, _, rfl, World.ownsRow_nil _ _ _ _, World.ownsRow_nil _ _ _ _, B1.out⟩

set_option maxHeartbeats 2000000 in
set_option maxRecDepth 100000 in
theorem merge_any (v u : Value) (a b : List Pc) (w : World) (h : Sl pcE w v a) (k : Sl pcE w u b) (ha : ∀ p, p ∈ a → p.wf) (hb : ∀ p, p ∈ b → p.wf) :
    Calls Try.prog 55 #[v, u] w fun e w' => ∃ v', e = .returned (.tuple #[v', .int .i64 (merE a b)]) ∧ w'.ownsRow w.heap.size 31 3 v' (merR a b).length (pcE.flat (merR a b)) ∧ Below w.heap.size w w' := by
  have cA := fun w h k => transform_any v u a b true w h k ha hb
  have cB := fun x w h k => compose_any v x a (trR true a b) w h k ha (wf_tr true a b)
  have H := Lib.hid h; have K := Lib.hid k
  unfold merE merR
  by_cases h0 : trE true a b = 0
  · simp only [h0, if_true]
    rw [h0] at cA
    generalize trR true a b = X at *
    generalize cmpE a X = E at *
    generalize cmpR a X = R at *
    have CA := Lib.hid cA; have CB := Lib.hid cB
    clear cA cB h k ha hb h0
    go_enter Try.func55, Try.ntmps55
    go_wp2_with fail
    refine (CA.out _ H.out K.out).mono ?_
    rintro e w1 ⟨v1, rfl, ho, hb1⟩
    have H1 := Lib.hid (H.out.ext hb1); have B1 := Lib.hid hb1; have O1 := Lib.hid (Sl.of_own ho)
    clear hb1 ho H K
    go_wp2_with fail
    refine (CB.out _ _ H1.out O1.out).mono ?_
    rintro e w2 ⟨v2, rfl, ho, hb2⟩
    have B2 := Lib.hid (B1.out.trans (hb2.mono B1.out.size))
    have O2 := Lib.hid (own_base (own_zero ho) (fun g hg => Nat.le_trans B1.out.size (ho.lt g hg).1))
    clear ho hb2
    go_wp2
    go_ret2
    exact ⟨v2, rfl, O2.out, B2.out⟩
  · simp only [eq_false h0, if_false]
    have hne : (trE true a b == 0) = false := by rw [beq_eq_false_iff_ne]; exact h0
    generalize trR true a b = X at *
    generalize trE true a b = E at *
    have CA := Lib.hid cA
    clear cA cB h k ha hb h0
    go_enter Try.func55, Try.ntmps55
    go_wp2_with fail
    refine (CA.out _ H.out K.out).mono ?_
    rintro e w1 ⟨v1, rfl, ho, hb1⟩
    have B1 := Lib.hid hb1
    clear hb1 ho H K
    go_wp2
    go_ret2
    exact ⟨_, rfl, World.ownsRow_nil _ _ _ _, B1.out⟩

end Go.Proofs.Ytdlbjfgpfjcpaaa
